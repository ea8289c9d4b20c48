/- Typed functions with the same answers as the program's, and the walks that show it. -/
import Derived.Test.YtlmgdnhnpkgheaaDoorG2Z11
import Derived.Test.YtlmgdnhnpkgheaaDoorG4Z11
import Derived.Laws.Strings
namespace Go.Am.Tryd
open Go Go.Am Go.Proofs
set_option linter.unusedVariables false
set_option linter.unusedSimpArgs false
set_option maxRecDepth 10000

def g_law_RatProducts (K : Nat) (p0 : ByteArray) (p1 : ByteArray) : Option Bool := ((g_law_ratFact K ).bind fun x1 => (if (!x1) = true then some false else ((g_rat_Mul K p0 p1).bind fun x15 => ((g_rat_Div K p0 p1).bind fun x26 => ((g_R_RatErrors K [p0, p1]).bind fun x41 => (if (x41 != 0) = true then (Option.bind ((if (x15.2 == x41) = true then (if (x26.2 == x41) = true then (if (sEq x15.1 (⟨#[]⟩ : ByteArray)) = true then some (sEq x26.1 (⟨#[]⟩ : ByteArray)) else some false) else some false) else some false)) (tu1 fun x69 => some x69)) else ((g_law_long K 100 [p0, p1]).bind fun x85 => (if x85 = true then some true else (Option.bind ((if (x15.2 != 0) = true then some true else ((g_R_RatMul K p0 p1).bind fun x108 => some (!(sEq x15.1 x108))))) (tu1 fun x119 => (if x119 = true then some false else (if (sEq p1 (⟨#[48]⟩ : ByteArray)) = true then (Option.bind ((if (x26.2 == 10) = true then some (sEq x26.1 (⟨#[]⟩ : ByteArray)) else some false)) (tu1 fun x143 => some x143)) else (Option.bind ((if (x26.2 == 0) = true then ((g_R_RatDiv K p0 p1).bind fun x162 => some (sEq x26.1 x162)) else some false)) (tu1 fun x174 => some x174))))))))))))))
set_option maxHeartbeats 4000000 in
theorem g_law_RatProducts_ok (K : Nat) {G : GM} {H : AH} {L : List Pc} (p0 : ByteArray) (p1 : ByteArray) (O : Ow G H (L)) (r : Bool) (h : g_law_RatProducts K p0 p1 = some r) :
    CR Tryd.prog 11 [(.string p0), (.string p1)] G H (L) (fun v G' _ => v = .bool r) := by
 unfold g_law_RatProducts at h
 refine CR.of (calls_of_AW (n := 76) (fn := Tryd.f11) (R := fun v H' => ∃ G', Ow G' H' (L) ∧ G.le G' ∧ v = .bool r) (by kernel_rfl) rfl rfl ?_)
 refine .seq (.region (W.q1 (.bool false) rfl (.nil (.seq (.seq (.region ?_))))))
 obtain ⟨x1, i2, h3⟩ := bd_inv h
 refine W.lo rfl rfl (Lo.callP (ps := []) (ps' := []) rfl (fn := Tryd.f31) (by kernel_rfl) rfl mn O (fun L' O' => g_law_ratFact_ok K  O' _ i2)) ?_
 rintro v10 H11 ⟨G4, O5, s6, sm9, rfl⟩
 replace O5 : Ow G4 H11 (L) := O5
 refine W.pure (v := (.bool (!x1))) rfl rfl (bool_not (a := x1) (oo rfl rfl)) (.nil (.cond (b := (!x1)) rfl rfl (fun g12 => ?_) (fun g12 => ?_)))
 ·have h13 := pos_inv g12 h3
  refine .seq (.region (W.q1 (.bool false) rfl (.nil (.ret ?_))))
  obtain rfl := Option.some.inj h13
  refine ret1R (P := Tryd.prog) (fn := Tryd.f11) (n := 76) (R := fun v H' => ∃ G', Ow G' H' (L) ∧ G.le G' ∧ v = .bool false) (v1 := (.bool false)) (by rfl) (rr_tmp (by rfl) (by exact rfl)) ?_
  exact ⟨_, O5, s6, rfl⟩
 have h14 := neg_b g12 h3
 refine .skip (.seq (.region (W.q2 (.string p0) rfl (W.q2 (.string p1) rfl ?_))))
 obtain ⟨x15, i16, h17⟩ := bd_inv h14
 refine W.lo rfl rfl (Lo.callP (ps := []) (ps' := []) rfl (fn := Tryd.f45) (by kernel_rfl) rfl (mc rfl (mc rfl mn)) O5 (fun L' O' => g_rat_Mul_ok K p0 p1 O' _ i16)) ?_
 rintro v24 H25 ⟨G18, O19, s20, sm23, rfl⟩
 replace O19 : Ow G18 H25 (L) := O19
 refine W.q2 (.tuple #[(.string x15.1), (.int .i64 x15.2)]) rfl (W.pure (v := (.string x15.1)) rfl rfl (v_extract (oo rfl rfl) rfl) (W.pure (v := (.int .i64 x15.2)) rfl rfl (v_extract (oo rfl rfl) rfl) (W.q1 (.string x15.1) rfl (W.q1 (.int .i64 x15.2) rfl (.nil (.seq ?_))))))
 refine .region (W.q2 (.string p0) rfl (W.q2 (.string p1) rfl ?_))
 obtain ⟨x26, i27, h28⟩ := bd_inv h17
 refine W.lo rfl rfl (Lo.callP (ps := []) (ps' := []) rfl (fn := Tryd.f46) (by kernel_rfl) rfl (mc rfl (mc rfl mn)) O19 (fun L' O' => g_rat_Div_ok K p0 p1 O' _ i27)) ?_
 rintro v35 H36 ⟨G29, O30, s31, sm34, rfl⟩
 replace O30 : Ow G29 H36 (L) := O30
 refine W.q2 (.tuple #[(.string x26.1), (.int .i64 x26.2)]) rfl (W.pure (v := (.string x26.1)) rfl rfl (v_extract (oo rfl rfl) rfl) (W.pure (v := (.int .i64 x26.2)) rfl rfl (v_extract (oo rfl rfl) rfl) (W.q1 (.string x26.1) rfl (W.q1 (.int .i64 x26.2) rfl (.nil (.seq ?_))))))
 refine .seq (.region (W.q2 (.string p0) rfl (W.q2 (.string p1) rfl (W.lo rfl rfl (Lo.buildSlice (r := rS) (vs := [(.string p0), (.string p1)]) (xs := [p0, p1]) el41 ze40 sz40 (by kernel_rfl) rfl (qc rfl (qc rfl qn)) rfl (.cons rfl (.cons rfl .nil)) O30) ?_))))
 rintro v39 H40 ⟨O37, sm38⟩
 obtain ⟨x41, i42, h43⟩ := bd_inv h28
 refine W.lo rfl rfl (Lo.callB (j := 0) rfl rfl (fn := Tryd.f35) (by kernel_rfl) rfl (mc rfl mn) O37 (fun G' L' hG O' hB => g_R_RatErrors_ok K v39 [p0, p1] hB O' _ i42)) ?_
 rintro v50 H51 ⟨G44, O45, s46, sm49, rfl⟩
 replace O45 : Ow G44 H51 (eSl v39 40 rS [p0, p1] :: L) := O45
 refine W.q1 (.int .i64 x41) rfl (.nil (.seq (.region (W.q2 (.int .i64 x41) rfl (W.q3 (.bool (x41 != 0)) rfl rfl (.nil ?_))))))
 refine .cond (b := (x41 != 0)) rfl rfl (fun g52 => ?_) (fun g52 => ?_)
 ·have h53 := pos_inv g52 h43
  refine .seq ?_
  obtain ⟨q54, h55, h56⟩ := bd_inv h53
  refine AW.midT (fun σ' H' => ∃ (y1 : Bool) (G' : GM), y1 = q54 ∧ Ow G' H' (eSl v39 40 rS [p0, p1] :: L) ∧ GM.le G44 G' ∧ σ' 4 = .bool y1) ?_ ?_
  rotate_left
  ·rintro σ70 H71 fr72 ⟨x69, G73, rfl, O74, s75, t77⟩
   have h78 := tu1_inv h56
   refine .ret ?_
   have O79 : Ow G73 H71 (L) := O74.drop 0
   obtain rfl := Option.some.inj h78
   refine ret1R (P := Tryd.prog) (fn := Tryd.f11) (n := 76) (R := fun v H' => ∃ G', Ow G' H' (L) ∧ G.le G' ∧ v = .bool x69) (v1 := (.bool x69)) (by rfl) (rr_tmp (by rfl) (by exact t77)) ?_
   exact ⟨_, O79, (GM.le.trans s6 (GM.le.trans s20 (GM.le.trans s31 (GM.le.trans s46 s75)))), rfl⟩
  refine .region (W.q2 (.int .i64 x15.2) rfl (W.q2 (.int .i64 x41) rfl (W.q3 (.bool (x15.2 == x41)) rfl rfl (W.q2 (.bool (x15.2 == x41)) rfl (W.splitAt (t := 33) (b := (x15.2 == x41)) rfl (fun g57 gv58 => ?_) (fun g57 gv58 => ?_))))))
  rotate_left
  ·have h68 := neg_b g57 h55
   refine W.q6 rfl gv58 (W.q6 rfl gv58 (W.q6 rfl gv58 (W.q5 (.bool false) gv58 rfl (W.q2 (.bool false) rfl (W.q6 rfl rfl (W.q6 rfl rfl ?_))))))
   refine W.q5 (.bool false) rfl rfl (W.q2 (.bool false) rfl (W.q6 rfl rfl (W.q6 rfl rfl (W.q5 (.bool false) rfl rfl (W.q1 (.bool false) rfl (.nil ?_))))))
   obtain rfl := Option.some.inj h68
   exact ⟨false, _, rfl, O45, (GM.le.refl _), rfl⟩
  have h59 := pos_inv g57 h55
  refine W.q2 (hg := gk rfl rfl gv58 rfl) (.int .i64 x26.2) rfl (W.q2 (hg := gk rfl rfl gv58 rfl) (.int .i64 x41) rfl (W.q3 (hg := gk rfl rfl gv58 rfl) (.bool (x26.2 == x41)) rfl rfl (W.q4 (.bool (x26.2 == x41)) gv58 rfl (W.q2 (.bool (x26.2 == x41)) rfl (W.splitAt (t := 38) (b := (x26.2 == x41)) rfl (fun g60 gv61 => ?_) (fun g60 gv61 => ?_))))))
  rotate_left
  ·have h67 := neg_b g60 h59
   refine W.q6 rfl gv61 (W.q6 rfl gv61 (W.q5 (.bool false) gv61 rfl (W.q2 (.bool false) rfl (W.q6 rfl rfl (W.q6 rfl rfl (W.q5 (.bool false) rfl rfl ?_))))))
   refine W.q1 (.bool false) rfl (.nil ?_)
   obtain rfl := Option.some.inj h67
   exact ⟨false, _, rfl, O45, (GM.le.refl _), rfl⟩
  have h62 := pos_inv g60 h59
  refine W.q2 (hg := gk rfl rfl gv61 rfl) (.string x15.1) rfl (W.pure (v := (.bool (sEq x15.1 (⟨#[]⟩ : ByteArray)))) (gk rfl rfl gv61 rfl) rfl (vs_eql (oo rfl rfl) (oo rfl rfl)) (W.q4 (.bool (sEq x15.1 (⟨#[]⟩ : ByteArray))) gv61 rfl (W.q2 (.bool (sEq x15.1 (⟨#[]⟩ : ByteArray))) rfl (W.splitAt (t := 42) (b := sEq x15.1 (⟨#[]⟩ : ByteArray)) rfl (fun g63 gv64 => ?_) (fun g63 gv64 => ?_)))))
  rotate_left
  ·have h66 := neg_b g63 h62
   refine W.q6 rfl gv64 (W.q6 rfl gv64 (W.q5 (.bool false) gv64 rfl (W.q1 (.bool false) rfl (.nil ?_))))
   obtain rfl := Option.some.inj h66
   exact ⟨false, _, rfl, O45, (GM.le.refl _), rfl⟩
  have h65 := pos_inv g63 h62
  refine W.q2 (hg := gk rfl rfl gv64 rfl) (.string x26.1) rfl (W.pure (v := (.bool (sEq x26.1 (⟨#[]⟩ : ByteArray)))) (gk rfl rfl gv64 rfl) rfl (vs_eql (oo rfl rfl) (oo rfl rfl)) (W.q4 (.bool (sEq x26.1 (⟨#[]⟩ : ByteArray))) gv64 rfl (W.q1 (.bool (sEq x26.1 (⟨#[]⟩ : ByteArray))) rfl (.nil ?_))))
  obtain rfl := Option.some.inj h65
  exact ⟨sEq x26.1 (⟨#[]⟩ : ByteArray), _, rfl, O45, (GM.le.refl _), rfl⟩
 have h80 := neg_b g52 h43
 refine .skip (.seq (.seq (.region (W.q2 (.string p0) rfl (W.q2 (.string p1) rfl (W.lo rfl rfl (Lo.buildSlice (r := rS) (vs := [(.string p0), (.string p1)]) (xs := [p0, p1]) el74 ze9 sz9 (by kernel_rfl) rfl (qc rfl (qc rfl qn)) rfl (.cons rfl (.cons rfl .nil)) O45) ?_))))))
 rintro v83 H84 ⟨O81, sm82⟩
 obtain ⟨x85, i86, h87⟩ := bd_inv h80
 refine W.lo rfl rfl (Lo.callB (j := 0) rfl rfl (fn := Tryd.f24) (by kernel_rfl) rfl (mc rfl (mc rfl mn)) O81 (fun G' L' hG O' hB => g_law_long_ok K 100 v83 [p0, p1] hB O' _ i86)) ?_
 rintro v94 H95 ⟨G88, O89, s90, sm93, rfl⟩
 replace O89 : Ow G88 H95 (eSl v83 9 rS [p0, p1] :: eSl v39 40 rS [p0, p1] :: L) := O89
 refine .nil (.cond (b := x85) rfl rfl (fun g96 => ?_) (fun g96 => ?_))
 ·have h97 := pos_inv g96 h87
  refine .seq (.region (W.q1 (.bool true) rfl (.nil (.ret ?_))))
  have O98 : Ow G88 H95 (eSl v39 40 rS [p0, p1] :: L) := O89.drop 0
  have O99 : Ow G88 H95 (L) := O98.drop 0
  obtain rfl := Option.some.inj h97
  refine ret1R (P := Tryd.prog) (fn := Tryd.f11) (n := 76) (R := fun v H' => ∃ G', Ow G' H' (L) ∧ G.le G' ∧ v = .bool true) (v1 := (.bool true)) (by rfl) (rr_tmp (by rfl) (by exact rfl)) ?_
  exact ⟨_, O99, (GM.le.trans s6 (GM.le.trans s20 (GM.le.trans s31 (GM.le.trans s46 s90)))), rfl⟩
 have h100 := neg_b g96 h87
 refine .skip (.seq (.seq ?_))
 obtain ⟨q101, h102, h103⟩ := bd_inv h100
 refine AW.midT (fun σ' H' => ∃ (y1 : Bool) (G' : GM), y1 = q101 ∧ Ow G' H' (eSl v83 9 rS [p0, p1] :: eSl v39 40 rS [p0, p1] :: L) ∧ GM.le G88 G' ∧ σ' 58 = .bool y1) ?_ ?_
 ·refine .region (W.q2 (.int .i64 x15.2) rfl (W.q3 (.bool (x15.2 != 0)) rfl rfl (W.q2 (.bool (x15.2 != 0)) rfl (W.splitAt (t := 52) (b := (x15.2 != 0)) rfl (fun g104 gv105 => ?_) (fun g104 gv105 => ?_)))))
  ·have h106 := pos_inv g104 h102
   refine W.q6 rfl gv105 (W.q6 rfl gv105 (W.q6 rfl gv105 (W.q6 rfl gv105 (W.q6 rfl gv105 (W.q4 (.bool true) gv105 rfl (.nil ?_))))))
   obtain rfl := Option.some.inj h106
   exact ⟨true, _, rfl, O89, (GM.le.refl _), rfl⟩
  have h107 := neg_b g104 h102
  refine W.q2 (hg := gk rfl rfl gv105 rfl) (.string x15.1) rfl (W.q2 (hg := gk rfl rfl gv105 rfl) (.string p0) rfl (W.q2 (hg := gk rfl rfl gv105 rfl) (.string p1) rfl ?_))
  obtain ⟨x108, i109, h110⟩ := bd_inv h107
  refine W.lo (gk rfl rfl gv105 rfl) rfl (Lo.callP (ps := []) (ps' := []) rfl (fn := Tryd.f47) (by kernel_rfl) rfl (mc rfl (mc rfl mn)) O89 (fun L' O' => g_R_RatMul_ok K p0 p1 O' _ i109)) ?_
  rintro v117 H118 ⟨G111, O112, s113, sm116, rfl⟩
  replace O112 : Ow G111 H118 (eSl v83 9 rS [p0, p1] :: eSl v39 40 rS [p0, p1] :: L) := O112
  refine W.pure (v := (.bool (!(sEq x15.1 x108)))) (gk rfl rfl gv105 rfl) rfl (vs_neq (oo rfl rfl) (oo rfl rfl)) (W.q5 (.bool (!(sEq x15.1 x108))) gv105 rfl (.nil ?_))
  obtain rfl := Option.some.inj h110
  exact ⟨(!(sEq x15.1 x108)), _, rfl, O112, s113, rfl⟩
 rintro σ120 H121 fr122 ⟨x119, G123, rfl, O124, s125, t127⟩
 have h128 := tu1_inv h103
 refine .cond (b := x119) rfl t127 (fun g129 => ?_) (fun g129 => ?_)
 ·have h130 := pos_inv g129 h128
  refine .seq (.region (W.q1 (.bool false) rfl (.nil (.ret ?_))))
  have O131 : Ow G123 H121 (eSl v39 40 rS [p0, p1] :: L) := O124.drop 0
  have O132 : Ow G123 H121 (L) := O131.drop 0
  obtain rfl := Option.some.inj h130
  refine ret1R (P := Tryd.prog) (fn := Tryd.f11) (n := 76) (R := fun v H' => ∃ G', Ow G' H' (L) ∧ G.le G' ∧ v = .bool false) (v1 := (.bool false)) (by rfl) (rr_tmp (by rfl) (by exact rfl)) ?_
  exact ⟨_, O132, (GM.le.trans s6 (GM.le.trans s20 (GM.le.trans s31 (GM.le.trans s46 (GM.le.trans s90 s125))))), rfl⟩
 have h133 := neg_b g129 h128
 refine .skip (.seq (.seq (.region (W.q2 (.string p1) ((fr122 1 rfl).trans rfl) (W.pure (v := (.bool (sEq p1 (⟨#[48]⟩ : ByteArray)))) rfl rfl (vs_eql (oo rfl rfl) (oo rfl rfl)) (.nil ?_))))))
 refine .cond (b := sEq p1 (⟨#[48]⟩ : ByteArray)) rfl rfl (fun g134 => ?_) (fun g134 => ?_)
 ·have h135 := pos_inv g134 h133
  refine .seq ?_
  obtain ⟨q136, h137, h138⟩ := bd_inv h135
  refine AW.midT (fun σ' H' => ∃ (y1 : Bool) (G' : GM), y1 = q136 ∧ Ow G' H' (eSl v83 9 rS [p0, p1] :: eSl v39 40 rS [p0, p1] :: L) ∧ GM.le G123 G' ∧ σ' 4 = .bool y1) ?_ ?_
  rotate_left
  ·rintro σ144 H145 fr146 ⟨x143, G147, rfl, O148, s149, t151⟩
   have h152 := tu1_inv h138
   refine .ret ?_
   have O153 : Ow G147 H145 (eSl v39 40 rS [p0, p1] :: L) := O148.drop 0
   have O154 : Ow G147 H145 (L) := O153.drop 0
   obtain rfl := Option.some.inj h152
   refine ret1R (P := Tryd.prog) (fn := Tryd.f11) (n := 76) (R := fun v H' => ∃ G', Ow G' H' (L) ∧ G.le G' ∧ v = .bool x143) (v1 := (.bool x143)) (by rfl) (rr_tmp (by rfl) (by exact t151)) ?_
   exact ⟨_, O154, (GM.le.trans s6 (GM.le.trans s20 (GM.le.trans s31 (GM.le.trans s46 (GM.le.trans s90 (GM.le.trans s125 s149)))))), rfl⟩
  refine .region (W.q2 (.int .i64 x26.2) ((fr122 8 rfl).trans rfl) (W.q3 (.bool (x26.2 == 10)) rfl rfl (W.q2 (.bool (x26.2 == 10)) rfl (W.splitAt (t := 63) (b := (x26.2 == 10)) rfl (fun g139 gv140 => ?_) (fun g139 gv140 => ?_)))))
  rotate_left
  ·have h142 := neg_b g139 h137
   refine W.q6 rfl gv140 (W.q6 rfl gv140 (W.q5 (.bool false) gv140 rfl (W.q1 (.bool false) rfl (.nil ?_))))
   obtain rfl := Option.some.inj h142
   exact ⟨false, _, rfl, O124, (GM.le.refl _), rfl⟩
  have h141 := pos_inv g139 h137
  refine W.q2 (hg := gk rfl rfl gv140 rfl) (.string x26.1) ((fr122 7 rfl).trans rfl) (W.pure (v := (.bool (sEq x26.1 (⟨#[]⟩ : ByteArray)))) (gk rfl rfl gv140 rfl) rfl (vs_eql (oo rfl rfl) (oo rfl rfl)) (W.q4 (.bool (sEq x26.1 (⟨#[]⟩ : ByteArray))) gv140 rfl (W.q1 (.bool (sEq x26.1 (⟨#[]⟩ : ByteArray))) rfl (.nil ?_))))
  obtain rfl := Option.some.inj h141
  exact ⟨sEq x26.1 (⟨#[]⟩ : ByteArray), _, rfl, O124, (GM.le.refl _), rfl⟩
 have h155 := neg_b g134 h133
 refine .skip (.seq ?_)
 obtain ⟨q156, h157, h158⟩ := bd_inv h155
 refine AW.midT (fun σ' H' => ∃ (y1 : Bool) (G' : GM), y1 = q156 ∧ Ow G' H' (eSl v83 9 rS [p0, p1] :: eSl v39 40 rS [p0, p1] :: L) ∧ GM.le G123 G' ∧ σ' 4 = .bool y1) ?_ ?_
 rotate_left
 ·rintro σ175 H176 fr177 ⟨x174, G178, rfl, O179, s180, t182⟩
  have h183 := tu1_inv h158
  refine .ret ?_
  have O184 : Ow G178 H176 (eSl v39 40 rS [p0, p1] :: L) := O179.drop 0
  have O185 : Ow G178 H176 (L) := O184.drop 0
  obtain rfl := Option.some.inj h183
  refine ret1R (P := Tryd.prog) (fn := Tryd.f11) (n := 76) (R := fun v H' => ∃ G', Ow G' H' (L) ∧ G.le G' ∧ v = .bool x174) (v1 := (.bool x174)) (by rfl) (rr_tmp (by rfl) (by exact t182)) ?_
  exact ⟨_, O185, (GM.le.trans s6 (GM.le.trans s20 (GM.le.trans s31 (GM.le.trans s46 (GM.le.trans s90 (GM.le.trans s125 s180)))))), rfl⟩
 refine .region (W.q2 (.int .i64 x26.2) ((fr122 8 rfl).trans rfl) (W.q3 (.bool (x26.2 == 0)) rfl rfl (W.q2 (.bool (x26.2 == 0)) rfl (W.splitAt (t := 69) (b := (x26.2 == 0)) rfl (fun g159 gv160 => ?_) (fun g159 gv160 => ?_)))))
 rotate_left
 ·have h173 := neg_b g159 h157
  refine W.q6 rfl gv160 (W.q6 rfl gv160 (W.q6 rfl gv160 (W.q6 rfl gv160 (W.q6 rfl gv160 (W.q5 (.bool false) gv160 rfl (W.q1 (.bool false) rfl ?_))))))
  refine .nil ?_
  obtain rfl := Option.some.inj h173
  exact ⟨false, _, rfl, O124, (GM.le.refl _), rfl⟩
 have h161 := pos_inv g159 h157
 refine W.q2 (hg := gk rfl rfl gv160 rfl) (.string x26.1) ((fr122 7 rfl).trans rfl) (W.q2 (hg := gk rfl rfl gv160 rfl) (.string p0) ((fr122 0 rfl).trans rfl) (W.q2 (hg := gk rfl rfl gv160 rfl) (.string p1) ((fr122 1 rfl).trans rfl) ?_))
 obtain ⟨x162, i163, h164⟩ := bd_inv h161
 refine W.lo (gk rfl rfl gv160 rfl) rfl (Lo.callP (ps := []) (ps' := []) rfl (fn := Tryd.f37) (by kernel_rfl) rfl (mc rfl (mc rfl mn)) O124 (fun L' O' => g_R_RatDiv_ok K p0 p1 O' _ i163)) ?_
 rintro v171 H172 ⟨G165, O166, s167, sm170, rfl⟩
 replace O166 : Ow G165 H172 (eSl v83 9 rS [p0, p1] :: eSl v39 40 rS [p0, p1] :: L) := O166
 refine W.pure (v := (.bool (sEq x26.1 x162))) (gk rfl rfl gv160 rfl) rfl (vs_eql (oo rfl rfl) (oo rfl rfl)) (W.q4 (.bool (sEq x26.1 x162)) gv160 rfl (W.q1 (.bool (sEq x26.1 x162)) rfl (.nil ?_)))
 obtain rfl := Option.some.inj h164
 exact ⟨sEq x26.1 x162, _, rfl, O166, s167, rfl⟩
end Go.Am.Tryd
/- Plain lemmas for typed functions: loops over lists, texts, whole numbers. -/
namespace Go.Am
open Go
set_option linter.unusedSimpArgs false
set_option linter.unusedVariables false

/-! ### Whole numbers -/
theorem kw {a : Int} (h1 : -9223372036854775808 ≤ a) (h2 : a ≤ 9223372036854775807) : kwrap .i64 a = a := kwrap_in (krange_i64 h1 h2)
theorem kw1 {i n : Nat} (h : i < n) (hn : n ≤ 4611686018427387904) : kwrap .i64 ((i : Int) + 1) = ((i + 1 : Nat) : Int) := by rw [kw (by omega) (by omega)]; omega
theorem idx_nat {α : Type} {xs : List α} {i : Nat} {x : α} (h : xs[i]? = some x) : idx xs (i : Int) = some x := by
  unfold idx
  rw [if_neg (by omega)]
  simpa using h
theorem lt_nat {i n : Nat} (h : i < n) : decide ((i : Int) < (n : Int)) = true := by simp; omega
theorem nlt_nat {i n : Nat} (h : n ≤ i) : decide ((i : Int) < (n : Int)) = false := by simp; omega

/-! ### Loops over a list that may end early -/
@[simp] theorem Sum.elim_ite {α β γ : Type} (f : α → γ) (g : β → γ) (c : Prop) [Decidable c] (x y : α ⊕ β) : Sum.elim f g (if c then x else y) = if c then Sum.elim f g x else Sum.elim f g y := by split <;> rfl
def runS {α S E : Type} (chk : α → S → E ⊕ S) : List α → S → E ⊕ S
  | [], s => .inr s
  | x :: xs, s => Sum.elim .inl (runS chk xs) (chk x s)
/-- A loop with a counter comes to what the list says. -/
theorem loop_sum {α S E : Type} (xs : List α) (l : Nat → S → Int → Option (E ⊕ S)) (chk : α → S → E ⊕ S) (I : S → Nat → Prop)
    (h : ∀ k s (i : Nat) x, xs[i]? = some x → I s i → l (k + 1) s i = Sum.elim (fun e => some (.inl e)) (fun s' => l k s' ((i + 1 : Nat) : Int)) (chk x s))
    (hI : ∀ s (i : Nat) x s', xs[i]? = some x → I s i → chk x s = .inr s' → I s' (i + 1))
    (h0 : ∀ k s (i : Nat), xs.length ≤ i → l (k + 1) s i = some (.inr s)) : ∀ d k s (i : Nat), xs.length - i = d → d < k → I s i → l k s i = some (runS chk (xs.drop i) s) := by
  intro d
  induction d with
  | zero =>
    intro k s i hd hk _
    obtain ⟨k, rfl⟩ : ∃ m, k = m + 1 := ⟨k - 1, by omega⟩
    rw [h0 k s i (by omega), List.drop_eq_nil_of_le (by omega)]; rfl
  | succ d ih =>
    intro k s i hd hk hi
    obtain ⟨k, rfl⟩ : ∃ m, k = m + 1 := ⟨k - 1, by omega⟩
    have hl : i < xs.length := by omega
    have hx : xs[i]? = some xs[i] := List.getElem?_eq_getElem hl
    rw [h k s i _ hx hi, List.drop_eq_getElem_cons hl, runS]
    cases hc : chk xs[i] s with
    | inl e => rfl
    | inr s' => exact ih k s' (i + 1) (by omega) (by omega) (hI s i _ s' hx hi hc)
theorem loop_sum0 {α S E : Type} (xs : List α) (l : Nat → S → Int → Option (E ⊕ S)) (chk : α → S → E ⊕ S) (I : S → Nat → Prop)
    (h : ∀ k s (i : Nat) x, xs[i]? = some x → I s i → l (k + 1) s i = Sum.elim (fun e => some (.inl e)) (fun s' => l k s' ((i + 1 : Nat) : Int)) (chk x s))
    (hI : ∀ s (i : Nat) x s', xs[i]? = some x → I s i → chk x s = .inr s' → I s' (i + 1))
    (h0 : ∀ k s (i : Nat), xs.length ≤ i → l (k + 1) s i = some (.inr s)) (k : Nat) (s : S) (hk : xs.length < k) (hi : I s 0) : l k s 0 = some (runS chk xs s) := by
  have := loop_sum xs l chk I h hI h0 xs.length k s 0 (by omega) hk hi
  simpa using this


/-! ### Texts -/
theorem sEq_iff {a b : ByteArray} : sEq a b = true ↔ a = b := by
  unfold sEq
  rw [beq_iff_eq, ByteArray.toList_eq, ByteArray.toList_eq]
  constructor
  · intro h
    cases a; cases b
    simp at h
    rw [h]
  · rintro rfl; rfl
theorem bytesOf_length (a : ByteArray) : (bytesOf a).length = a.size := by unfold bytesOf; rw [List.length_map, Array.length_toList]; rfl
theorem bidx_eq (a : ByteArray) (i : Int) : bidx a i = idx (bytesOf a) i := by
  unfold bidx idx
  by_cases h : 0 ≤ i
  · rw [if_pos h, if_neg (by omega)]
    unfold bytesOf
    rw [List.getElem?_map, Array.getElem?_toList]
    rfl
  · rw [if_neg h, if_pos (by omega)]
end Go.Am
/- Numbers: digits in a base, the least one first; decimal texts. Plain, no program. -/
namespace Go.Am
open Go
set_option linter.unusedSimpArgs false
set_option linter.unusedVariables false
/-! ### Digits, the least one first -/
def valB (B : Int) : List Int → Int
  | [] => 0
  | d :: l => d + B * valB B l
def DigB (B : Int) (l : List Int) : Prop := ∀ d ∈ l, 0 ≤ d ∧ d < B
theorem DigB.nil (B : Int) : DigB B [] := fun d h => by simp at h
theorem DigB.cons {B d : Int} {l : List Int} (h : DigB B (d :: l)) : (0 ≤ d ∧ d < B) ∧ DigB B l := ⟨h d (by simp), fun x hx => h x (by simp [hx])⟩
theorem DigB.app {B : Int} {l m : List Int} (h : DigB B l) (k : DigB B m) : DigB B (l ++ m) := fun d hd => by
  rcases List.mem_append.1 hd with hd | hd
  · exact h d hd
  · exact k d hd
theorem valB_app (B : Int) : ∀ (l m : List Int), valB B (l ++ m) = valB B l + B ^ l.length * valB B m
  | [], m => by simp [valB]
  | d :: l, m => by
    simp only [List.cons_append, valB, valB_app B l m, List.length_cons, Int.pow_succ]
    rw [Int.mul_add, ← Int.mul_assoc, Int.mul_comm B (B ^ l.length), Int.add_assoc]
theorem valB_nonneg {B : Int} (hB : 0 < B) : ∀ (l : List Int), DigB B l → 0 ≤ valB B l
  | [], _ => Int.le_refl _
  | d :: l, h => by
    have h1 := (h.cons).1
    have h2 := valB_nonneg hB l h.cons.2
    have := Int.mul_nonneg (Int.le_of_lt hB) h2
    simp only [valB]; omega
theorem valB_lt {B : Int} (hB : 0 < B) : ∀ (l : List Int), DigB B l → valB B l < B ^ l.length
  | [], _ => by simp [valB]
  | d :: l, h => by
    have h1 := (h.cons).1
    have h2 := valB_lt hB l h.cons.2
    have h3 : B * (valB B l + 1) ≤ B * B ^ l.length := Int.mul_le_mul_of_nonneg_left (by omega) (Int.le_of_lt hB)
    rw [Int.mul_add, Int.mul_one] at h3
    simp only [valB, List.length_cons, Int.pow_succ]
    rw [Int.mul_comm (B ^ l.length) B]
    omega
/-- Without a leading nought. -/
def CanB (B : Int) (l : List Int) : Prop := DigB B l ∧ l.getLast? ≠ some 0
theorem CanB.tail {B d : Int} {l : List Int} (h : CanB B (d :: l)) : CanB B l := by
  refine ⟨h.1.cons.2, fun e => h.2 ?_⟩
  cases l with
  | nil => simp at e
  | cons x l => rw [List.getLast?_cons_cons]; exact e
theorem valB_pos {B : Int} (hB : 1 < B) : ∀ (l : List Int), CanB B l → l ≠ [] → 0 < valB B l
  | [], _, h => absurd rfl h
  | d :: l, h, _ => by
    have h1 := h.1.cons.1
    cases l with
    | nil =>
      have : d ≠ 0 := fun e => h.2 (by simp [e])
      simp only [valB]; omega
    | cons x l =>
      have h2 := valB_pos hB (x :: l) h.tail (by simp)
      have h3 : B * 1 ≤ B * valB B (x :: l) := Int.mul_le_mul_of_nonneg_left (by omega) (by omega)
      simp only [valB] at h2 h3 ⊢; omega
theorem digit_eq {B d e x y : Int} (hd : 0 ≤ d ∧ d < B) (he : 0 ≤ e ∧ e < B) (h : d + B * x = e + B * y) : d = e ∧ x = y := by
  have h1 : x = y := by
    rcases Int.lt_trichotomy x y with h2 | h2 | h2
    · have : B * (x + 1) ≤ B * y := Int.mul_le_mul_of_nonneg_left (by omega) (by omega)
      rw [Int.mul_add, Int.mul_one] at this; omega
    · exact h2
    · have : B * (y + 1) ≤ B * x := Int.mul_le_mul_of_nonneg_left (by omega) (by omega)
      rw [Int.mul_add, Int.mul_one] at this; omega
  subst h1
  exact ⟨by omega, rfl⟩
/-- The digits of a number are given by it. -/
theorem can_eq {B : Int} (hB : 1 < B) : ∀ (l m : List Int), CanB B l → CanB B m → valB B l = valB B m → l = m
  | [], [], _, _, _ => rfl
  | [], e :: m, _, h2, h => by
    have := valB_pos hB (e :: m) h2 (by simp)
    rw [← h] at this; simp [valB] at this
  | d :: l, [], h1, _, h => by
    have := valB_pos hB (d :: l) h1 (by simp)
    rw [h] at this; simp [valB] at this
  | d :: l, e :: m, h1, h2, h => by
    obtain ⟨rfl, h3⟩ := digit_eq h1.1.cons.1 h2.1.cons.1 h
    rw [can_eq hB l m h1.tail h2.tail h3]
/-! ### Decimal texts -/
def digT (c : Int) : Bool := decide (48 ≤ c) && decide (c ≤ 57)
/-- The digits of a text, the least one first. -/
def digsT (s : ByteArray) : List Int := ((bytesOf s).map (· - 48)).reverse
def numT (s : ByteArray) : Int := valB 10 (digsT s)
/-- A text is a canonical number. -/
def CanT (s : ByteArray) : Prop := s.size ≠ 0 ∧ (bytesOf s).all digT = true ∧ ((bytesOf s).head? = some 48 → s.size = 1)
theorem bytesOf_inj {a b : ByteArray} (h : bytesOf a = bytesOf b) : a = b := by
  unfold bytesOf at h
  have h1 : a.data.toList = b.data.toList := by
    have : Function.Injective fun b : UInt8 => (b.toNat : Int) := fun x y h => by
      have : x.toNat = y.toNat := by have h' : (x.toNat : Int) = (y.toNat : Int) := h; omega
      exact UInt8.toNat_inj.1 this
    exact List.map_inj_right (fun x y h => this h) |>.1 h
  cases a; cases b
  congr 1
  exact Array.toList_inj.1 h1
theorem digsT_dig {s : ByteArray} (h : (bytesOf s).all digT = true) : DigB 10 (digsT s) := by
  intro d hd
  unfold digsT at hd
  rw [List.mem_reverse, List.mem_map] at hd
  obtain ⟨c, hc, rfl⟩ := hd
  have := List.all_eq_true.1 h c hc
  simp only [digT, Bool.and_eq_true, decide_eq_true_eq] at this
  omega
theorem digsT_len (s : ByteArray) : (digsT s).length = s.size := by
  unfold digsT
  rw [List.length_reverse, List.length_map, bytesOf_length]
theorem digsT_inj {a b : ByteArray} (h : digsT a = digsT b) : a = b := by
  unfold digsT at h
  have h1 := List.reverse_inj.1 h
  exact bytesOf_inj (List.map_inj_right (fun x y h => by omega) |>.1 h1)
theorem canT_nought {s : ByteArray} (h : CanT s) (h0 : (bytesOf s).head? = some 48) : digsT s = [0] := by
  have h1 := h.2.2 h0
  have hl := bytesOf_length s
  rw [h1] at hl
  match hb : bytesOf s, hl with
  | [c], _ => rw [hb] at h0; simp at h0; subst h0; simp [digsT, hb]
theorem canT_can {s : ByteArray} (h : CanT s) (h0 : (bytesOf s).head? ≠ some 48) : CanB 10 (digsT s) := by
  refine ⟨digsT_dig h.2.1, fun e => h0 ?_⟩
  unfold digsT at e
  rw [List.getLast?_reverse, List.head?_map] at e
  cases hb : (bytesOf s).head? with
  | none => rw [hb] at e; cases e
  | some c => rw [hb] at e; simp at e; congr 1; omega
/-- A number has one canonical text. -/
theorem numT_inj {a b : ByteArray} (ha : CanT a) (hb : CanT b) (h : numT a = numT b) : a = b := by
  have pos : ∀ s : ByteArray, CanT s → (bytesOf s).head? ≠ some 48 → 0 < numT s := fun s hs h0 => valB_pos (by omega) _ (canT_can hs h0) (fun e => by
    have := digsT_len s
    rw [e] at this
    exact hs.1 this.symm)
  by_cases h1 : (bytesOf a).head? = some 48 <;> by_cases h2 : (bytesOf b).head? = some 48
  · exact digsT_inj (by rw [canT_nought ha h1, canT_nought hb h2])
  · have := pos b hb h2
    unfold numT at h this
    rw [canT_nought ha h1] at h
    simp [valB] at h; omega
  · have := pos a ha h1
    unfold numT at h this
    rw [canT_nought hb h2] at h
    simp [valB] at h; omega
  · exact digsT_inj (can_eq (by omega) _ _ (canT_can ha h1) (canT_can hb h2) h)
/-! ### Parts of texts -/
theorem bytesOf_extract (a : ByteArray) (i j : Nat) : bytesOf (a.extract i j) = ((bytesOf a).drop i).take (j - i) := by
  unfold bytesOf
  rw [ByteArray.data_extract, Array.toList_extract]
  simp [List.extract, List.map_drop, List.map_take]
theorem bytesOf_append (a b : ByteArray) : bytesOf (a ++ b) = bytesOf a ++ bytesOf b := by
  unfold bytesOf
  rw [ByteArray.data_append, Array.toList_append, List.map_append]
theorem bytesOf_str (xs : List Int) (h : ∀ x ∈ xs, 0 ≤ x ∧ x ≤ 255) : bytesOf (strOfNums xs) = xs := by
  unfold bytesOf
  rw [strOfNums_data, List.map_map]
  conv => rhs; rw [← List.map_id xs]
  apply List.map_congr_left
  intro x hx
  have := h x hx
  show ((UInt8.ofNat x.toNat).toNat : Int) = x
  rw [UInt8.toNat_ofNat']
  omega
theorem ssl_tail {s : ByteArray} {c : Int} {l : List Int} (h : bytesOf s = c :: l) : ∃ t, ssl s 1 (s.size : Int) = some t ∧ bytesOf t = l ∧ t.size = l.length := by
  have hn := bytesOf_length s
  rw [h] at hn
  simp at hn
  refine ⟨s.extract 1 s.size, ?_, ?_, ?_⟩
  · unfold ssl
    rw [if_pos (by omega)]
    simp
  · rw [bytesOf_extract, h]
    simp
    exact List.take_of_length_le (by omega)
  · rw [← bytesOf_length, bytesOf_extract, h]
    simp
    omega
theorem numT_cons {s t : ByteArray} {c : Int} (h : bytesOf s = c :: bytesOf t) : numT s = numT t + 10 ^ t.size * (c - 48) := by
  unfold numT digsT
  rw [h, List.map_cons, List.reverse_cons, valB_app]
  simp [valB, bytesOf_length]
end Go.Am
/- Graphs: connected parts, their numbers, closure of a matrix, ways. Plain, no program. -/
namespace Go.Am
open Go
set_option linter.unusedVariables false
set_option linter.unusedSimpArgs false
def Edg (l : List (Int × Int)) (U : Nat → Bool) (a b : Nat) : Prop := ∃ k, k < l.length ∧ U k = true ∧ (l.getD k (0, 0) = ((a : Int), (b : Int)) ∨ l.getD k (0, 0) = ((b : Int), (a : Int)))
inductive Con (l : List (Int × Int)) (U : Nat → Bool) : Nat → Nat → Prop
  | refl (a : Nat) : Con l U a a
  | tail {a b c : Nat} : Con l U a b → Edg l U b c → Con l U a c
structure Outer (l : List (Int × Int)) (U : Nat → Bool) (n : Nat) (cs : List Int) (m s : Nat) : Prop where
  len : cs.length = n
  rng : ∀ i < n, -1 ≤ cs.getD i 0 ∧ cs.getD i 0 < m
  done : ∀ i < s, i < n → 0 ≤ cs.getD i 0
  cls : ∀ i j, i < n → j < n → 0 ≤ cs.getD i 0 → (cs.getD i 0 = cs.getD j 0 ↔ Con l U i j)
  last : 0 < m → ∃ j < s, j < n ∧ cs.getD j 0 = (m : Int) - 1
  rgs : ∀ i < n, 0 < cs.getD i 0 → ∃ j < i, cs.getD j 0 = cs.getD i 0 - 1
  few : m ≤ s
structure Mid (l : List (Int × Int)) (U : Nat → Bool) (n : Nat) (base : List Int) (m s : Nat) (cs : List Int) : Prop where
  len : cs.length = n
  own : ∀ i < n, (cs.getD i 0 = m ∧ base.getD i 0 = -1 ∧ Con l U s i) ∨ cs.getD i 0 = base.getD i 0
  start : cs.getD s 0 = m
theorem getD_set {cs : List Int} {i j : Nat} {v : Int} (hi : i < cs.length) : (cs.set i v).getD j 0 = if j = i then v else cs.getD j 0 := by
  rw [List.getD_eq_getElem?_getD, List.getElem?_set]
  by_cases h : i = j
  · subst h; simp [hi]
  · rw [if_neg h, if_neg (fun e => h e.symm), List.getD_eq_getElem?_getD]
theorem Edg.symm {l : List (Int × Int)} {U : Nat → Bool} {a b : Nat} (h : Edg l U a b) : Edg l U b a := by
  obtain ⟨k, h1, h2, h3⟩ := h
  exact ⟨k, h1, h2, h3.symm⟩
theorem Con.trans {l : List (Int × Int)} {U : Nat → Bool} {a b c : Nat} (h : Con l U a b) (k : Con l U b c) : Con l U a c := by
  induction k with
  | refl => exact h
  | tail _ e ih => exact .tail ih e
theorem Con.symm {l : List (Int × Int)} {U : Nat → Bool} {a b : Nat} (h : Con l U a b) : Con l U b a := by
  induction h with
  | refl => exact .refl _
  | tail _ e ih => exact (Con.tail (.refl _) e.symm).trans ih
structure EqvOn (M : Nat → Nat → Bool) (n : Nat) : Prop where
  refl : ∀ a < n, M a a = true
  symm : ∀ a b, a < n → b < n → M a b = true → M b a = true
  trans : ∀ a b c, a < n → b < n → c < n → M a b = true → M b c = true → M a c = true
structure NumOk (M : Nat → Nat → Bool) (cs : List Int) (m i : Nat) : Prop where
  len : cs.length = i
  rng : ∀ a < i, 0 ≤ cs.getD a 0 ∧ cs.getD a 0 < m
  cls : ∀ a b, a < i → b < i → (cs.getD a 0 = cs.getD b 0 ↔ M a b = true)
  last : 0 < m → ∃ a < i, cs.getD a 0 = (m : Int) - 1
  rgs : ∀ a < i, 0 < cs.getD a 0 → ∃ b < a, cs.getD b 0 = cs.getD a 0 - 1
  few : m ≤ i
structure WOk (l : List (Int × Int)) (U : Nat → Bool) (n : Nat) (M : Nat → Nat → Bool) (m : Nat) : Prop where
  sound : ∀ a b, a < n → b < n → M a b = true → Con l U a b
  refl : ∀ a < n, M a a = true
  edge : ∀ a b, a < n → b < n → Edg l U a b → M a b = true
  tr : ∀ c < m, ∀ a b, a < n → b < n → M a c = true → M c b = true → M a b = true
/-- There is a walk of exactly k used lines from v to 'to'. -/
def Wk (l : List (Int × Int)) (U : Nat → Bool) (to : Nat) : Nat → Nat → Prop
  | 0, v => v = to
  | k + 1, v => ∃ w, Edg l U v w ∧ Wk l U to k w
structure FarOk (l : List (Int × Int)) (U : Nat → Bool) (n to : Nat) (fs : List Int) (d : Nat) : Prop where
  len : fs.length = n
  rng : ∀ v < n, -1 ≤ fs.getD v 0
  fnd : ∀ v < n, ∀ k : Nat, fs.getD v 0 = k → k ≤ d ∧ Wk l U to k v ∧ ∀ j < k, ¬ Wk l U to j v
  nof : ∀ v < n, fs.getD v 0 = -1 → ∀ j ≤ d, ¬ Wk l U to j v
/-- In the midst of a round: 'fs' the distances at its start, 'gs' now. -/
structure Rnd (l : List (Int × Int)) (U : Nat → Bool) (n to : Nat) (fs gs : List Int) (d : Nat) : Prop where
  len : gs.length = n
  old : ∀ v < n, gs.getD v 0 = fs.getD v 0 ∨ (fs.getD v 0 = -1 ∧ gs.getD v 0 = (d : Int) + 1 ∧ Wk l U to (d + 1) v)
def neg (n : Nat) (fs : List Int) : Nat := ((List.range n).filter fun v => fs.getD v 0 == -1).length
/-! ### Loops -/
theorem loop_inv {S R : Type} (n : Nat) (l : Nat → S → Int → Option R) (I : S → Nat → Prop) (Q : R → Prop)
    (h : ∀ k s (i : Nat), i < n → I s i → (∃ r, l (k + 1) s (i : Int) = some r ∧ Q r) ∨ ∃ s', I s' (i + 1) ∧ l (k + 1) s (i : Int) = l k s' ((i + 1 : Nat) : Int))
    (h0 : ∀ k s (i : Nat), i = n → I s i → ∃ r, l (k + 1) s (i : Int) = some r ∧ Q r) : ∀ k s, n < k → I s 0 → ∃ r, l k s 0 = some r ∧ Q r := by
  have key : ∀ d k s (i : Nat), n - i = d → i ≤ n → d < k → I s i → ∃ r, l k s (i : Int) = some r ∧ Q r := by
    intro d
    induction d with
    | zero =>
      intro k s i hd hi hk hI
      obtain ⟨k, rfl⟩ : ∃ m, k = m + 1 := ⟨k - 1, by omega⟩
      exact h0 k s i (by omega) hI
    | succ d ih =>
      intro k s i hd hi hk hI
      obtain ⟨k, rfl⟩ : ∃ m, k = m + 1 := ⟨k - 1, by omega⟩
      rcases h k s i (by omega) hI with h1 | ⟨s', h1, h2⟩
      · exact h1
      · rw [h2]; exact ih k s' (i + 1) (by omega) (by omega) (by omega) h1
  intro k s hk hI
  exact key n k s 0 (by omega) (Nat.zero_le _) hk hI
theorem loop_wf {S R : Type} (l : Nat → S → Option R) (I : S → Prop) (mu : S → Nat) (Q : R → Prop)
    (h : ∀ k s, I s → (∃ r, l (k + 1) s = some r ∧ Q r) ∨ ∃ s', I s' ∧ mu s' < mu s ∧ l (k + 1) s = l k s') : ∀ k s, mu s < k → I s → ∃ r, l k s = some r ∧ Q r := by
  intro k
  induction k with
  | zero => intro s h1; omega
  | succ k ih =>
    intro s h1 hI
    rcases h k s hI with h2 | ⟨s', h2, h3, h4⟩
    · exact h2
    · rw [h4]; exact ih s' (by omega) h2
/-! ### Lines as rows of two numbers -/
def two (p : Int × Int) : List Int := [p.1, p.2]
theorem idx_getD {cs : List Int} {a : Nat} (h : a < cs.length) : idx cs (a : Int) = some (cs.getD a 0) := by
  apply idx_nat
  simp [h, List.getD_eq_getElem?_getD]
theorem w12 : kwrap .i64 (1 + 1) = 2 := by rw [kw (by omega) (by omega)]; rfl
/-! ### Ways, once more -/
end Go.Am
/- Plain lemmas: rules for typed functions over whole numbers; digits set in place; the guess of a digit of a quotient. -/
namespace Go.Am
open Go
set_option linter.unusedSimpArgs false
set_option linter.unusedVariables false
/-! ### Rules -/
theorem bsome {α β : Type} (a : α) (f : α → Option β) : Option.bind (some a) f = f a := (rfl)
theorem tu0a {β : Type} (g : Option β) (u : Unit) : tu0 g u = g := (rfl)
theorem tu1a {α β : Type} (g : α → Option β) (a : α) : tu1 g a = g a := (rfl)
theorem tu2a {α1 α2 β : Type} (g : α1 → α2 → Option β) (p : α1 × α2) : tu2 g p = g p.1 p.2 := (rfl)
theorem tu3a {α1 α2 α3 β : Type} (g : α1 → α2 → α3 → Option β) (p : α1 × α2 × α3) : tu3 g p = g p.1 p.2.1 p.2.2 := (rfl)
theorem tu4a {α1 α2 α3 α4 β : Type} (g : α1 → α2 → α3 → α4 → Option β) (p : α1 × α2 × α3 × α4) : tu4 g p = g p.1 p.2.1 p.2.2.1 p.2.2.2 := (rfl)
theorem tu5a {α1 α2 α3 α4 α5 β : Type} (g : α1 → α2 → α3 → α4 → α5 → Option β) (p : α1 × α2 × α3 × α4 × α5) : tu5 g p = g p.1 p.2.1 p.2.2.1 p.2.2.2.1 p.2.2.2.2 := (rfl)
theorem lta {α β : Type} (x : α) (f : α → Option β) : lt x f = f x := (rfl)
theorem bindSl {α β γ : Type} (a : α) (f : α → Option γ) (g : β → Option γ) : bindS (some (.inl a)) f g = f a := (rfl)
theorem bindSr {α β γ : Type} (b : β) (f : α → Option γ) (g : β → Option γ) : bindS (some (.inr b)) f g = g b := (rfl)
theorem outSl {α β γ : Type} (a : α) (f : α → Option γ) (g : β → Option γ) : outS (.inl a) f g = f a := (rfl)
theorem outSr {α β γ : Type} (b : β) (f : α → Option γ) (g : β → Option γ) : outS (.inr b) f g = g b := (rfl)
theorem beq_iff {α : Type} [BEq α] [LawfulBEq α] {a b : α} : ((a == b) = true) = (a = b) := propext beq_iff_eq
theorem bne_iff {a b : Int} : ((a != b) = true) = (a ≠ b) := by simp
theorem k64 {a : Int} (h1 : -9223372036854775808 ≤ a) (h2 : a ≤ 9223372036854775807) : kwrap .i64 a = a := kw h1 h2
theorem ku64 {a : Int} (h1 : 0 ≤ a) (h2 : a ≤ 18446744073709551615) : kwrap .u64 a = a := kwrap_in (by simp [krange]; omega)
theorem ku32 {a : Int} (h1 : 0 ≤ a) (h2 : a ≤ 4294967295) : kwrap .u32 a = a := kwrap_in (by simp [krange]; omega)
theorem ku8 {a : Int} (h1 : 0 ≤ a) (h2 : a ≤ 255) : kwrap .u8 a = a := kwrap_in (by simp [krange]; omega)
theorem i64w {a : Int} (h1 : -9223372036854775808 ≤ a) (h2 : a ≤ 9223372036854775807) : IntKind.wrap .i64 a = a := by rw [← kwrap_eq]; exact k64 h1 h2
theorem u64w {a : Int} (h1 : 0 ≤ a) (h2 : a ≤ 18446744073709551615) : IntKind.wrap .u64 a = a := by rw [← kwrap_eq]; exact ku64 h1 h2
theorem u32w {a : Int} (h1 : 0 ≤ a) (h2 : a ≤ 4294967295) : IntKind.wrap .u32 a = a := by rw [← kwrap_eq]; exact ku32 h1 h2
theorem u8w {a : Int} (h1 : 0 ≤ a) (h2 : a ≤ 255) : IntKind.wrap .u8 a = a := by rw [← kwrap_eq]; exact ku8 h1 h2
theorem idxI {xs : List Int} {j : Int} (h1 : 0 ≤ j) (h2 : j < (xs.length : Int)) : idx xs j = some (xs.getD j.toNat 0) := by
  unfold idx
  rw [if_neg (by omega), List.getD_eq_getElem?_getD, List.getElem?_eq_getElem (by omega)]
  rfl
theorem bidxI {s : ByteArray} {j : Int} (h1 : 0 ≤ j) (h2 : j < (s.size : Int)) : bidx s j = some ((bytesOf s).getD j.toNat 0) := by
  rw [bidx_eq]; exact idxI h1 (by rw [bytesOf_length]; exact h2)
theorem lslI {α : Type} {xs : List α} {l h : Int} (h1 : 0 ≤ l) (h2 : l ≤ h) (h3 : h ≤ (xs.length : Int)) : lsl xs l h = some ((xs.drop l.toNat).take (h.toNat - l.toNat)) := by unfold lsl; rw [if_pos ⟨h1, h2, h3⟩]
theorem sslI {s : ByteArray} {l h : Int} (h1 : 0 ≤ l) (h2 : l ≤ h) (h3 : h ≤ (s.size : Int)) : ssl s l h = some (s.extract l.toNat h.toNat) := by unfold ssl; rw [if_pos ⟨h1, h2, h3⟩]
theorem tdivI {a b : Int} (h : 0 ≤ a) : Int.tdiv a b = a / b := Int.tdiv_eq_ediv_of_nonneg h
theorem tmodI {a b : Int} (h : 0 ≤ a) : Int.tmod a b = a % b := Int.tmod_eq_emod_of_nonneg h
/-- A loop: it ends here with what is wanted, or one step keeps the invariant and comes nearer. -/
theorem loopW {S R : Type} (l : Nat → S → Option R) (I : S → Prop) (mu : S → Nat) (Q : R → Prop)
    (h : ∀ k s, I s → (∃ r, l (k + 1) s = some r ∧ Q r) ∨ ∃ s', l (k + 1) s = l k s' ∧ mu s' < mu s ∧ I s') {k : Nat} (s : S) (hk : mu s < k) (hI : I s) : ∃ r, l k s = some r ∧ Q r :=
  loop_wf l I mu Q (fun k s hs => (h k s hs).imp id fun ⟨s', a, b, c⟩ => ⟨s', c, b, a⟩) k s hk hI
/-! ### Digits set in place -/
theorem getD_dig {B : Int} (hB : 0 < B) {x : List Int} (h : DigB B x) (k : Nat) : 0 ≤ x.getD k 0 ∧ x.getD k 0 < B := by
  by_cases hk : k < x.length
  · rw [List.getD_eq_getElem?_getD, List.getElem?_eq_getElem hk]; exact h _ (List.getElem_mem hk)
  · rw [List.getD_eq_getElem?_getD, List.getElem?_eq_none (by omega)]; exact ⟨Int.le_refl _, hB⟩
theorem valB_set (B : Int) : ∀ (l : List Int) (p : Nat) (d : Int), p < l.length → valB B (l.set p d) = valB B l + B ^ p * (d - l.getD p 0)
  | [], p, d, h => by simp at h
  | x :: l, 0, d, _ => by simp [valB]; omega
  | x :: l, p + 1, d, h => by
    have := valB_set B l p d (by simpa using h)
    simp only [List.set_cons_succ, valB, this, List.getD_cons_succ, Int.pow_succ]
    grind
theorem DigB.set {B d : Int} {l : List Int} (h : DigB B l) (p : Nat) (hd : 0 ≤ d ∧ d < B) : DigB B (l.set p d) := fun x hx => by
  rcases List.mem_or_eq_of_mem_set hx with h1 | h1
  · exact h x h1
  · subst h1; exact hd
theorem DigB.take {B : Int} {l : List Int} (h : DigB B l) (k : Nat) : DigB B (l.take k) := fun x hx => h x (List.mem_of_mem_take hx)
theorem DigB.drop {B : Int} {l : List Int} (h : DigB B l) (k : Nat) : DigB B (l.drop k) := fun x hx => h x (List.mem_of_mem_drop hx)
theorem DigB.snoc {B d : Int} {l : List Int} (h : DigB B l) (hd : 0 ≤ d ∧ d < B) : DigB B (l ++ [d]) := h.app fun x hx => by simp at hx; omega
theorem valB_split (B : Int) (l : List Int) (k : Nat) (hk : k ≤ l.length) : valB B l = valB B (l.take k) + B ^ k * valB B (l.drop k) := by
  conv => lhs; rw [← List.take_append_drop k l]
  rw [valB_app, List.length_take, Nat.min_eq_left hk]
theorem valB_zeros (B : Int) (n : Nat) : valB B (List.replicate n 0) = 0 := by
  induction n with
  | zero => rfl
  | succ n ih => simp [List.replicate_succ, valB, ih]
theorem DigB.zeros {B : Int} (hB : 0 < B) (n : Nat) : DigB B (List.replicate n 0) := fun x hx => by
  rw [List.mem_replicate] at hx; omega
theorem valB_take (B : Int) (x : List Int) (k : Nat) : valB B (x.take (k + 1)) = valB B (x.take k) + B ^ k * x.getD k 0 := by
  by_cases h : k < x.length
  · have hx : x[k]? = some x[k] := List.getElem?_eq_getElem h
    rw [List.take_add_one, hx, valB_app, List.length_take, Nat.min_eq_left (by omega), List.getD_eq_getElem?_getD, hx]
    simp [valB]
  · rw [List.take_of_length_le (by omega), List.take_of_length_le (by omega), List.getD_eq_getElem?_getD, List.getElem?_eq_none (by omega)]
    simp
theorem valB_snoc (B : Int) (x : List Int) (d : Int) : valB B (x ++ [d]) = valB B x + B ^ x.length * d := by rw [valB_app]; simp [valB]
theorem last_split (l : List Int) (h : l ≠ []) : ∃ r d, l = r ++ [d] := by
  rcases List.eq_nil_or_concat l with rfl | ⟨r, d, rfl⟩
  · exact absurd rfl h
  · exact ⟨r, d, by simp⟩
theorem can_ge {B : Int} (hB : 1 < B) {l : List Int} (h : CanB B l) (h0 : l ≠ []) : B ^ (l.length - 1) ≤ valB B l := by
  obtain ⟨r, d, rfl⟩ := last_split l h0
  have hd : d ≠ 0 := fun e => h.2 (by simp [e])
  have hd2 := h.1 d (by simp)
  have hr := valB_nonneg (B := B) (by omega) r (fun x hx => h.1 x (by simp [hx]))
  have e : (r ++ [d]).length - 1 = r.length := by simp
  rw [valB_snoc, e]
  have h1 : B ^ r.length * 1 ≤ B ^ r.length * d := Int.mul_le_mul_of_nonneg_left (by omega) (Int.le_of_lt (Int.pow_pos (by omega)))
  omega
theorem ipow_le {B : Int} (hB : 0 < B) {i j : Nat} (h : i ≤ j) : B ^ i ≤ B ^ j := by
  obtain ⟨m, rfl⟩ : ∃ m, j = i + m := ⟨j - i, by omega⟩
  rw [Int.pow_add]
  have p1 : 0 < B ^ m := Int.pow_pos hB
  have p2 : 0 < B ^ i := Int.pow_pos hB
  have := Int.mul_le_mul_of_nonneg_left (show 1 ≤ B ^ m by omega) (Int.le_of_lt p2)
  omega
/-- Fewer digits, a smaller number. -/
theorem can_len {B : Int} (hB : 1 < B) {l m : List Int} (h : DigB B l) (hm : CanB B m) (hl : l.length < m.length) : valB B l < valB B m := by
  have h1 := valB_lt (B := B) (by omega) l h
  have h2 := can_ge hB hm (by intro e; subst e; simp at hl)
  have h3 : B ^ l.length ≤ B ^ (m.length - 1) := by
    obtain ⟨j, hj⟩ : ∃ j, m.length - 1 = l.length + j := ⟨m.length - 1 - l.length, by omega⟩
    rw [hj, Int.pow_add]
    have p1 : 0 < B ^ j := Int.pow_pos (by omega)
    have p2 : 0 < B ^ l.length := Int.pow_pos (by omega)
    have := Int.mul_le_mul_of_nonneg_left (show 1 ≤ B ^ j by omega) (Int.le_of_lt p2)
    omega
  omega
/-- A number with as many digits at most. -/
theorem can_len_le {B : Int} (hB : 1 < B) {l m : List Int} (h : CanB B l) (hm : DigB B m) (hv : valB B l ≤ valB B m) : l.length ≤ m.length := by
  refine Nat.not_lt.1 fun hl => ?_
  have := can_len hB hm h hl
  omega
theorem mul_le {a b c : Int} (hc : 0 ≤ c) (h : a ≤ b) : c * a ≤ c * b := Int.mul_le_mul_of_nonneg_left h hc
theorem mul_nn {a b : Int} (ha : 0 ≤ a) (hb : 0 ≤ b) : 0 ≤ a * b := Int.mul_nonneg ha hb
/-! ### The guess of a digit of a quotient -/
/-- The leading digits of a divisor and of what is divided; q is the true digit. -/
structure Kn (B P v1 v2 vl top u3 ul q : Int) : Prop where
  B1 : 1 < B
  P0 : 0 < P
  v1p : 1 ≤ v1
  v2p : 0 ≤ v2
  v2b : v2 < B
  vlp : 0 ≤ vl
  vlb : vl < P
  tp : 0 ≤ top
  u3p : 0 ≤ u3
  u3b : u3 < B
  ulp : 0 ≤ ul
  ulb : ul < P
  q0 : 0 ≤ q
  qB : q < B
  lo : q * (P * (B * v1 + v2) + vl) ≤ P * (B * top + u3) + ul
  hi : P * (B * top + u3) + ul < (q + 1) * (P * (B * v1 + v2) + vl)
section
variable {B P v1 v2 vl top u3 ul q g r : Int}
theorem Kn.first (h : Kn B P v1 v2 vl top u3 ul q) : q ≤ top / v1 := by
  obtain ⟨B1, P0, v1p, v2p, v2b, vlp, vlb, tp, u3p, u3b, ulp, ulb, q0, qB, lo, hi⟩ := h
  rw [Int.le_ediv_iff_mul_le (by omega)]
  refine Int.le_of_lt_add_one (Int.not_le.1 fun hc => ?_)
  have a1 := mul_le (Int.le_of_lt (Int.mul_pos P0 (show 0 < B by omega))) hc
  have a2 := mul_nn (Int.le_of_lt P0) (mul_nn q0 v2p)
  have a3 := mul_nn q0 vlp
  have a4 := mul_le (Int.le_of_lt P0) (show u3 ≤ B - 1 by omega)
  grind
theorem Kn.down (h : Kn B P v1 v2 vl top u3 ul q) (hr : top = g * v1 + r) (hg : 0 ≤ g) (hc : g * v2 > r * B + u3) : q < g := by
  obtain ⟨B1, P0, v1p, v2p, v2b, vlp, vlb, tp, u3p, u3b, ulp, ulb, q0, qB, lo, hi⟩ := h
  refine Int.not_le.1 fun hq => ?_
  have hV : 0 ≤ P * (B * v1 + v2) + vl := by
    have := mul_nn (Int.le_of_lt P0) (show 0 ≤ B * v1 + v2 from by have := mul_nn (show 0 ≤ B by omega) (show 0 ≤ v1 by omega); omega)
    omega
  have a1 := mul_le hV hq
  have a2 := mul_le (Int.le_of_lt P0) (show r * B + u3 + 1 ≤ g * v2 by omega)
  have a3 := mul_nn hg vlp
  subst hr
  grind
theorem Kn.exitA (h : Kn B P v1 v2 vl top u3 ul q) (hr : top = g * v1 + r) (hg : 0 ≤ g) (hB : g < B) (hc : g * v2 ≤ r * B + u3) : g ≤ q + 1 := by
  obtain ⟨B1, P0, v1p, v2p, v2b, vlp, vlb, tp, u3p, u3b, ulp, ulb, q0, qB, lo, hi⟩ := h
  refine Int.not_lt.1 fun hq => ?_
  have hV : 0 ≤ P * (B * v1 + v2) + vl := by
    have := mul_nn (Int.le_of_lt P0) (show 0 ≤ B * v1 + v2 from by have := mul_nn (show 0 ≤ B by omega) (show 0 ≤ v1 by omega); omega)
    omega
  have a1 := mul_le hV (show q + 1 ≤ g - 1 by omega)
  have a2 := mul_le (Int.le_of_lt P0) hc
  have a3 := mul_le hg (show vl ≤ P - 1 by omega)
  have a4 := mul_le (Int.le_of_lt P0) (show g ≤ B - 1 by omega)
  have a5 := mul_le (Int.le_of_lt (Int.mul_pos P0 (show 0 < B by omega))) v1p
  have a6 := mul_nn (Int.le_of_lt P0) v2p
  subst hr
  grind
theorem Kn.exitB (h : Kn B P v1 v2 vl top u3 ul q) (hr : top = g * v1 + r) (hg : 0 ≤ g) (hB : g ≤ B) (hc : B ≤ r) : g ≤ q := by
  obtain ⟨B1, P0, v1p, v2p, v2b, vlp, vlb, tp, u3p, u3b, ulp, ulb, q0, qB, lo, hi⟩ := h
  refine Int.not_lt.1 fun hq => ?_
  have hV : 0 ≤ P * (B * v1 + v2) + vl := by
    have := mul_nn (Int.le_of_lt P0) (show 0 ≤ B * v1 + v2 from by have := mul_nn (show 0 ≤ B by omega) (show 0 ≤ v1 by omega); omega)
    omega
  have a1 := mul_le hV (show q + 1 ≤ g by omega)
  have hPg := mul_nn (Int.le_of_lt P0) hg
  have a2 := mul_le hPg (show v2 ≤ B - 1 by omega)
  have a3 := mul_le hg (show vl ≤ P - 1 by omega)
  have a4 := mul_le (Int.le_of_lt (Int.mul_pos P0 (show 0 < B by omega))) (show g ≤ r by omega)
  have a6 := mul_nn (Int.le_of_lt P0) u3p
  subst hr
  grind
end
end Go.Am
/- Plain law: the program's numbers: digits in the base 10^9. -/
namespace Go.Am.Tryd
open Go Go.Am Go.Proofs
set_option linter.unusedSimpArgs false
set_option linter.unusedVariables false
variable {K : Nat}
/-- A list of digits is a number of the program's. -/
def NumN (n : Int) (l : List Int) : Prop := CanB 1000000000 l ∧ valB 1000000000 l = n
theorem NumN.inj {n : Int} {l m : List Int} (h : NumN n l) (k : NumN n m) : l = m := can_eq (B := 1000000000) (by omega) l m h.1 k.1 (h.2.trans k.2.symm)
theorem NumN.nonneg {n : Int} {l : List Int} (h : NumN n l) : 0 ≤ n := by rw [← h.2]; exact valB_nonneg (by omega) l h.1.1
theorem NumN.nil : NumN 0 [] := ⟨⟨DigB.nil _, by simp⟩, rfl⟩
theorem NumN.pos {n : Int} {l : List Int} (h : NumN n l) (h0 : l ≠ []) : 0 < n := by rw [← h.2]; exact valB_pos (by omega) l h.1 h0
theorem NumN.nil_iff {n : Int} {l : List Int} (h : NumN n l) : l = [] ↔ n = 0 := by
  constructor
  · rintro rfl; exact h.2.symm
  · intro e; by_cases h0 : l = []
    · exact h0
    · have := h.pos h0; omega
theorem NumN.len0 {n : Int} {l : List Int} (h : NumN n l) : l.length = 0 ↔ n = 0 := by rw [← h.nil_iff, List.length_eq_zero_iff]
theorem NumN.one {n : Int} (h : 0 < n) (h2 : n < 1000000000) : NumN n [n] := ⟨⟨fun d hd => by simp at hd; omega, by simp; omega⟩, by simp [valB]⟩
theorem trim_loop {B : Int} : ∀ n k (l : List Int), l.length = n → n ≤ 8000000 → n < k → DigB B l → ∃ t, g_nat_N_trim_l0 K k l = some t ∧ CanB B t ∧ valB B t = valB B l ∧ t.length ≤ l.length := by
  intro n
  induction n with
  | zero =>
    intro k l hl _ hk hd
    obtain ⟨k, rfl⟩ : ∃ m, k = m + 1 := ⟨k - 1, by omega⟩
    have : l = [] := List.length_eq_zero_iff.1 hl
    subst this
    exact ⟨[], by rw [g_nat_N_trim_l0]; simp [tu1], ⟨hd, by simp⟩, rfl, Nat.le_refl _⟩
  | succ n ih =>
    intro k l hl hb hk hd
    obtain ⟨k, rfl⟩ : ∃ m, k = m + 1 := ⟨k - 1, by omega⟩
    obtain ⟨r, d, rfl⟩ : ∃ r d, l = r ++ [d] := last_split l (by intro e; subst e; simp at hl)
    have hr : r.length = n := by simpa using hl
    have e1 : kwrap .i64 (((r ++ [d]).length : Int) - 1) = (n : Int) := by rw [hl, kw (by omega) (by omega)]; omega
    have e2 : idx (r ++ [d]) (n : Int) = some d := idx_nat (by simp [← hr])
    have e3 : lsl (r ++ [d]) 0 (n : Int) = some r := by
      unfold lsl
      rw [if_pos (by rw [hl]; omega)]
      simp [← hr]
    have e4 : ((r ++ [d]).length : Int) > 0 := by rw [hl]; omega
    have dr : DigB B r := fun x hx => hd x (by simp [hx])
    rw [g_nat_N_trim_l0, e1, e2, e3, decide_eq_true e4]
    by_cases h0 : d = 0
    · obtain ⟨t, h1, h2, h3, h4⟩ := ih k r hr (by omega) (by omega) dr
      refine ⟨t, by simp [h0, tu1, h1], h2, ?_, by simp; omega⟩
      rw [h3, valB_app, h0]; simp [valB]
    · exact ⟨r ++ [d], by simp [h0, tu1], ⟨hd, by simpa using h0⟩, rfl, Nat.le_refl _⟩
theorem trim_ok {B : Int} {l : List Int} (hl : l.length ≤ 8000000) (hK : 2000000000 < K) (hd : DigB B l) : ∃ t, g_nat_N_trim K l = some t ∧ CanB B t ∧ valB B t = valB B l ∧ t.length ≤ l.length := by
  obtain ⟨t, h1, h2⟩ := trim_loop (K := K) l.length K l rfl hl (by omega) hd
  exact ⟨t, by unfold g_nat_N_trim; rw [h1]; rfl, h2⟩
theorem ncmp_loop {x y : List Int} (hl : x.length = y.length) (hx : x.length ≤ 4000000) (hK : 2000000000 < K) (dx : DigB 1000000000 x) (dy : DigB 1000000000 y) :
    ∃ r : Int ⊕ Unit, g_nat_N_Cmp_l0 K x y K ((x.length : Int) - 1) = some r ∧ r = (if valB 1000000000 x < valB 1000000000 y then .inl (-1) else if valB 1000000000 x = valB 1000000000 y then .inr () else .inl 1) := by
  have hdrop : ∀ (l : List Int) j, valB 1000000000 (l.drop j) = l.getD j 0 + 1000000000 * valB 1000000000 (l.drop (j + 1)) := fun l j => by
    by_cases h : j < l.length
    · rw [List.drop_eq_getElem_cons h, List.getD_eq_getElem?_getD, List.getElem?_eq_getElem h]; rfl
    · rw [List.drop_eq_nil_of_le (by omega), List.drop_eq_nil_of_le (by omega), List.getD_eq_getElem?_getD, List.getElem?_eq_none (by omega)]; rfl
  refine loopW (fun k (s : Int) => g_nat_N_Cmp_l0 K x y k s) (fun s => ∃ j : Nat, s = (j : Int) - 1 ∧ j ≤ x.length ∧ valB 1000000000 (x.drop j) = valB 1000000000 (y.drop j)) (fun s => (s + 1).toNat) _ ?_ ((x.length : Int) - 1) (by omega) ⟨x.length, rfl, Nat.le_refl _, by rw [List.drop_eq_nil_of_le (Nat.le_refl _), List.drop_eq_nil_of_le (by omega)]⟩
  rintro k _ ⟨j, rfl, hj, he⟩
  by_cases h0 : j = 0
  · subst h0
    left
    rw [List.drop_zero, List.drop_zero] at he
    rw [g_nat_N_Cmp_l0]
    refine ⟨.inr (), by simp (discharger := omega) only [decide_eq_true_eq, if_pos, if_neg, if_true, if_false, bsome, beq_iff, bne_iff, idxI, bidxI, sslI, lslI, k64, ku64, ku32, ku8, i64w, u64w, u32w, u8w, tdivI, tmodI, tu0a, tu1a, tu2a, tu3a, tu4a, tu5a, lta, bindSl, bindSr, outSl, outSr, Int.toNat_natCast, List.length_cons, List.length_nil, List.length_set, Int.toNat_zero, List.replicate_zero], ?_⟩
    rw [if_neg (by omega), if_pos he]
  · obtain ⟨i, rfl⟩ : ∃ i, j = i + 1 := ⟨j - 1, by omega⟩
    have e1 : ((i + 1 : Nat) : Int) - 1 = i := by omega
    rw [e1]
    have ex := getD_dig (by omega) dx i
    have ey := getD_dig (by omega) dy i
    have sx := valB_split 1000000000 x i (by omega)
    have sy := valB_split 1000000000 y i (by omega)
    have ax := hdrop x i
    have ay := hdrop y i
    have bx := valB_lt (B := 1000000000) (by omega) _ (dx.take i)
    have by' := valB_lt (B := 1000000000) (by omega) _ (dy.take i)
    have cx := valB_nonneg (B := 1000000000) (by omega) _ (dx.take i)
    have cy := valB_nonneg (B := 1000000000) (by omega) _ (dy.take i)
    rw [List.length_take, Nat.min_eq_left (by omega)] at bx by'
    have p0 : 0 < (1000000000 : Int) ^ i := Int.pow_pos (by omega)
    rw [ax, he] at sx
    rw [ay] at sy
    by_cases h1 : x.getD i 0 < y.getD i 0
    · left
      refine ⟨.inl (-1), by rw [g_nat_N_Cmp_l0]; simp (discharger := omega) only [decide_eq_true_eq, if_pos, if_neg, if_true, if_false, bsome, beq_iff, bne_iff, idxI, bidxI, sslI, lslI, k64, ku64, ku32, ku8, i64w, u64w, u32w, u8w, tdivI, tmodI, tu0a, tu1a, tu2a, tu3a, tu4a, tu5a, lta, bindSl, bindSr, outSl, outSr, Int.toNat_natCast, List.length_cons, List.length_nil, List.length_set, Int.toNat_zero, List.replicate_zero], ?_⟩
      have := mul_le (Int.le_of_lt p0) (show x.getD i 0 + 1 ≤ y.getD i 0 by omega)
      rw [if_pos (by grind)]
    · by_cases h2 : x.getD i 0 > y.getD i 0
      · left
        refine ⟨.inl 1, by rw [g_nat_N_Cmp_l0]; simp (discharger := omega) only [decide_eq_true_eq, if_pos, if_neg, if_true, if_false, bsome, beq_iff, bne_iff, idxI, bidxI, sslI, lslI, k64, ku64, ku32, ku8, i64w, u64w, u32w, u8w, tdivI, tmodI, tu0a, tu1a, tu2a, tu3a, tu4a, tu5a, lta, bindSl, bindSr, outSl, outSr, Int.toNat_natCast, List.length_cons, List.length_nil, List.length_set, Int.toNat_zero, List.replicate_zero], ?_⟩
        have := mul_le (Int.le_of_lt p0) (show y.getD i 0 + 1 ≤ x.getD i 0 by omega)
        rw [if_neg (by grind), if_neg (by grind)]
      · right
        refine ⟨(i : Int) - 1, by rw [g_nat_N_Cmp_l0]; simp (discharger := omega) only [decide_eq_true_eq, if_pos, if_neg, if_true, if_false, bsome, beq_iff, bne_iff, idxI, bidxI, sslI, lslI, k64, ku64, ku32, ku8, i64w, u64w, u32w, u8w, tdivI, tmodI, tu0a, tu1a, tu2a, tu3a, tu4a, tu5a, lta, bindSl, bindSr, outSl, outSr, Int.toNat_natCast, List.length_cons, List.length_nil, List.length_set, Int.toNat_zero, List.replicate_zero], by omega, i, rfl, by omega, ?_⟩
        rw [ax, ay, he]
        omega
theorem ncmp_ok {x y : List Int} {a b : Int} (hx : x.length ≤ 4000000) (hy : y.length ≤ 4000000) (hK : 2000000000 < K) (nx : NumN a x) (ny : NumN b y) : g_nat_N_Cmp K x y = some (if a < b then -1 else if a = b then 0 else 1) := by
  unfold g_nat_N_Cmp
  by_cases h : x.length = y.length
  · obtain ⟨r, h1, h2⟩ := ncmp_loop (K := K) h hx hK nx.1.1 ny.1.1
    rw [nx.2, ny.2] at h2
    have e : ((x.length : Int) != (y.length : Int)) = false := by simp; omega
    rw [e]
    rw [k64 (by omega) (by omega), h1, h2]
    simp only [Bool.false_eq_true, if_false, bindS, Option.bind_some]
    by_cases c1 : a < b
    · simp [c1, tu1]
    · by_cases c2 : a = b
      · subst c2; simp [tu0]
      · simp [c1, c2, tu1]
  · have e : ((x.length : Int) != (y.length : Int)) = true := by simp; omega
    rw [e, if_pos rfl]
    by_cases h1 : x.length < y.length
    · have := can_len (B := 1000000000) (by omega) nx.1.1 ny.1 h1
      rw [nx.2, ny.2] at this
      simp (discharger := omega) only [decide_eq_true_eq, if_pos, if_neg, if_true, if_false, bsome, beq_iff, bne_iff, idxI, bidxI, sslI, lslI, k64, ku64, ku32, ku8, i64w, u64w, u32w, u8w, tdivI, tmodI, tu0a, tu1a, tu2a, tu3a, tu4a, tu5a, lta, bindSl, bindSr, outSl, outSr, Int.toNat_natCast, List.length_cons, List.length_nil, List.length_set, Int.toNat_zero, List.replicate_zero]
    · have := can_len (B := 1000000000) (by omega) ny.1.1 nx.1 (by omega)
      rw [nx.2, ny.2] at this
      simp (discharger := omega) only [decide_eq_true_eq, if_pos, if_neg, if_true, if_false, bsome, beq_iff, bne_iff, idxI, bidxI, sslI, lslI, k64, ku64, ku32, ku8, i64w, u64w, u32w, u8w, tdivI, tmodI, tu0a, tu1a, tu2a, tu3a, tu4a, tu5a, lta, bindSl, bindSr, outSl, outSr, Int.toNat_natCast, List.length_cons, List.length_nil, List.length_set, Int.toNat_zero, List.replicate_zero]
end Go.Am.Tryd
/- Plain law: products of the program's numbers; division by one digit. -/
namespace Go.Am.Tryd
open Go Go.Am Go.Proofs
set_option linter.unusedSimpArgs false
set_option linter.unusedVariables false
variable {K : Nat}
theorem dig_mul {a b : Int} (ha : 0 ≤ a ∧ a < 1000000000) (hb : 0 ≤ b ∧ b < 1000000000) : 0 ≤ a * b ∧ a * b ≤ 999999998000000001 := by
  refine ⟨Int.mul_nonneg ha.1 hb.1, ?_⟩
  have h1 := mul_le ha.1 (show b ≤ 999999999 by omega)
  omega
theorem nmul_in {y out : List Int} {u : Int} {i : Nat} (hl : i + y.length ≤ out.length) (ho : out.length ≤ 8000000) (hK : 2000000000 < K) (hu : 0 ≤ u ∧ u < 1000000000) (dy : DigB 1000000000 y) (d0 : DigB 1000000000 out) :
    ∃ r : List Int × Int, g_nat_N_Mul_l2 K y (i : Int) u K out 0 0 = some r ∧ r.1.length = out.length ∧ DigB 1000000000 r.1 ∧ (0 ≤ r.2 ∧ r.2 < 1000000000) ∧ (∀ j, i + y.length ≤ j → r.1.getD j 0 = out.getD j 0) ∧
      valB 1000000000 r.1 + 1000000000 ^ (i + y.length) * r.2 = valB 1000000000 out + 1000000000 ^ i * (u * valB 1000000000 y) := by
  refine loopW (fun k (s : List Int × Int × Int) => g_nat_N_Mul_l2 K y (i : Int) u k s.1 s.2.1 s.2.2) (fun s => ∃ q : Nat, s.2.2 = q ∧ q ≤ y.length ∧ s.1.length = out.length ∧ DigB 1000000000 s.1 ∧ (0 ≤ s.2.1 ∧ s.2.1 < 1000000000) ∧ (∀ j, i + q ≤ j → s.1.getD j 0 = out.getD j 0) ∧
      valB 1000000000 s.1 + 1000000000 ^ (i + q) * s.2.1 = valB 1000000000 out + 1000000000 ^ i * (u * valB 1000000000 (y.take q))) (fun s => (y.length - s.2.2 : Int).toNat) _ ?_ ((out, 0, 0) : List Int × Int × Int) (by simp; omega) ⟨0, rfl, by omega, rfl, d0, by simp, fun _ _ => rfl, by simp [valB]⟩
  rintro k ⟨o, c, _⟩ ⟨q, rfl, h0, h1, h2, h3, hz, h4⟩
  dsimp only at h1 h2 h3 h4 hz ⊢
  by_cases hq : q < y.length
  · right
    have ey := getD_dig (by omega) dy q
    have eo := getD_dig (by omega) h2 (i + q)
    have ty := valB_take 1000000000 y q
    have hm := dig_mul hu ey
    have hset := fun d => valB_set 1000000000 o (i + q) d (by omega)
    have hgs := fun d j => getD_set (cs := o) (i := i + q) (j := j) (v := d) (by omega)
    have e1 : ((i : Int) + (q : Int)) = ((i + q : Nat) : Int) := by omega
    generalize hw : u * y.getD q 0 = w at hm
    generalize ho : o.getD (i + q) 0 = z at eo hset
    have hdm := Int.emod_add_mul_ediv (w + z + c) 1000000000
    refine ⟨(o.set (i + q) ((w + z + c) % 1000000000), (w + z + c) / 1000000000, (q : Int) + 1), ?_, by dsimp only; omega, q + 1, rfl, by omega, by simp [h1], h2.set _ (by omega), by dsimp only; omega, fun j hj => by rw [hgs, if_neg (by omega)]; exact hz j (by omega), ?_⟩
    · rw [g_nat_N_Mul_l2]
      simp (discharger := omega) only [decide_eq_true_eq, if_pos, if_neg, if_true, if_false, bsome, beq_iff, bne_iff, idxI, bidxI, sslI, lslI, k64, ku64, ku32, ku8, i64w, u64w, u32w, u8w, tdivI, tmodI, tu0a, tu1a, tu2a, tu3a, tu4a, tu5a, lta, bindSl, bindSr, outSl, outSr, Int.toNat_natCast, List.length_cons, List.length_nil, List.length_set, Int.toNat_zero, List.replicate_zero, e1, hw, ho]
    · dsimp only
      rw [hset, ty]
      have e2 : (1000000000 : Int) ^ (i + (q + 1)) = 1000000000 ^ i * 1000000000 ^ q * 1000000000 := by rw [← Nat.add_assoc, Int.pow_succ, Int.pow_add]
      rw [e2]
      rw [Int.pow_add] at h4 ⊢
      subst hw
      generalize (u * y.getD q 0 + z + c) / 1000000000 = Q at *
      generalize (u * y.getD q 0 + z + c) % 1000000000 = R at *
      grind
  · left
    have : q = y.length := by omega
    subst this
    rw [List.take_of_length_le (Nat.le_refl _)] at h4
    exact ⟨(o, c), by rw [g_nat_N_Mul_l2]; simp (discharger := omega) only [decide_eq_true_eq, if_pos, if_neg, if_true, if_false, bsome, beq_iff, bne_iff, idxI, bidxI, sslI, lslI, k64, ku64, ku32, ku8, i64w, u64w, u32w, u8w, tdivI, tmodI, tu0a, tu1a, tu2a, tu3a, tu4a, tu5a, lta, bindSl, bindSr, outSl, outSr, Int.toNat_natCast, List.length_cons, List.length_nil, List.length_set, Int.toNat_zero, List.replicate_zero], h1, h2, h3, hz, h4⟩
theorem nmul_loop {x y : List Int} (hl : x.length + y.length ≤ 8000000) (hK : 2000000000 < K) (dx : DigB 1000000000 x) (dy : DigB 1000000000 y) :
    ∃ r : List Int, g_nat_N_Mul_l0 K x y K (List.replicate (x.length + y.length) 0) 0 = some r ∧ r.length = x.length + y.length ∧ DigB 1000000000 r ∧ valB 1000000000 r = valB 1000000000 x * valB 1000000000 y := by
  refine loopW (fun k (s : List Int × Int) => g_nat_N_Mul_l0 K x y k s.1 s.2) (fun s => ∃ i : Nat, s.2 = i ∧ i ≤ x.length ∧ s.1.length = x.length + y.length ∧ DigB 1000000000 s.1 ∧ (∀ j, i + y.length ≤ j → s.1.getD j 0 = 0) ∧ valB 1000000000 s.1 = valB 1000000000 (x.take i) * valB 1000000000 y) (fun s => (x.length - s.2 : Int).toNat) _ ?_ ((List.replicate (x.length + y.length) 0, 0) : List Int × Int) (by simp; omega) ⟨0, rfl, by omega, by simp, .zeros (by omega) _, fun j _ => by simp [List.getD_eq_getElem?_getD, List.getElem?_replicate]; split <;> rfl, by simp [valB, valB_zeros]⟩
  rintro k ⟨out, _⟩ ⟨i, rfl, h0, h1, h2, hz, h4⟩
  dsimp only at h1 h2 h4 hz ⊢
  by_cases hi : i < x.length
  · right
    have ex := getD_dig (by omega) dx i
    have tx := valB_take 1000000000 x i
    obtain ⟨⟨r, c⟩, r1, r2, r3, r4, r5, r6⟩ := nmul_in (K := K) (y := y) (out := out) (u := x.getD i 0) (i := i) (by omega) (by omega) hK ex dy h2
    dsimp only at r2 r3 r4 r5 r6
    have hz0 := r5 (i + y.length) (Nat.le_refl _)
    rw [hz _ (Nat.le_refl _)] at hz0
    have hset := valB_set 1000000000 r (i + y.length) c (by omega)
    have hgs := fun d j => getD_set (cs := r) (i := i + y.length) (j := j) (v := d) (by omega)
    have e1 : ((i : Int) + (y.length : Int)) = ((i + y.length : Nat) : Int) := by omega
    refine ⟨(r.set (i + y.length) c, (i : Int) + 1), ?_, by dsimp only; omega, i + 1, rfl, by omega, by simp [r2, h1], r3.set _ r4, fun j hj => by rw [hgs, if_neg (by omega), r5 j (by omega)]; exact hz j (by omega), ?_⟩
    · rw [g_nat_N_Mul_l0]
      simp (discharger := omega) only [decide_eq_true_eq, if_pos, if_neg, if_true, if_false, bsome, beq_iff, bne_iff, idxI, bidxI, sslI, lslI, k64, ku64, ku32, ku8, i64w, u64w, u32w, u8w, tdivI, tmodI, tu0a, tu1a, tu2a, tu3a, tu4a, tu5a, lta, bindSl, bindSr, outSl, outSr, Int.toNat_natCast, List.length_cons, List.length_nil, List.length_set, Int.toNat_zero, List.replicate_zero, r1, e1]
    · dsimp only
      rw [hset, hz0, tx]
      grind
  · left
    have : i = x.length := by omega
    subst this
    rw [List.take_of_length_le (Nat.le_refl _)] at h4
    exact ⟨out, by rw [g_nat_N_Mul_l0]; simp (discharger := omega) only [decide_eq_true_eq, if_pos, if_neg, if_true, if_false, bsome, beq_iff, bne_iff, idxI, bidxI, sslI, lslI, k64, ku64, ku32, ku8, i64w, u64w, u32w, u8w, tdivI, tmodI, tu0a, tu1a, tu2a, tu3a, tu4a, tu5a, lta, bindSl, bindSr, outSl, outSr, Int.toNat_natCast, List.length_cons, List.length_nil, List.length_set, Int.toNat_zero, List.replicate_zero], h1, h2, h4⟩
theorem nmul_ok {x y : List Int} {a b : Int} (hl : x.length + y.length ≤ 8000000) (hK : 2000000000 < K) (nx : NumN a x) (ny : NumN b y) : ∃ z, g_nat_N_Mul K x y = some z ∧ NumN (a * b) z ∧ z.length ≤ x.length + y.length := by
  obtain ⟨r, h1, h2, h3, h4⟩ := nmul_loop hl hK nx.1.1 ny.1.1
  rw [nx.2, ny.2] at h4
  obtain ⟨t, t1, t2, t3, t4⟩ := trim_ok (K := K) (B := 1000000000) (l := r) (by omega) hK h3
  refine ⟨t, ?_, ⟨t2, by rw [t3, h4]⟩, by omega⟩
  unfold g_nat_N_Mul
  have e1 : ((x.length : Int) + (y.length : Int)) = ((x.length + y.length : Nat) : Int) := by omega
  simp (discharger := omega) only [decide_eq_true_eq, if_pos, if_neg, if_true, if_false, bsome, beq_iff, bne_iff, idxI, bidxI, sslI, lslI, k64, ku64, ku32, ku8, i64w, u64w, u32w, u8w, tdivI, tmodI, tu0a, tu1a, tu2a, tu3a, tu4a, tu5a, lta, bindSl, bindSr, outSl, outSr, Int.toNat_natCast, List.length_cons, List.length_nil, List.length_set, Int.toNat_zero, List.replicate_zero, h1, t1, e1]
theorem drop_val (l : List Int) (j : Nat) : valB 1000000000 (l.drop j) = l.getD j 0 + 1000000000 * valB 1000000000 (l.drop (j + 1)) := by
  by_cases h : j < l.length
  · rw [List.drop_eq_getElem_cons h, List.getD_eq_getElem?_getD, List.getElem?_eq_getElem h]; rfl
  · rw [List.drop_eq_nil_of_le (by omega), List.drop_eq_nil_of_le (by omega), List.getD_eq_getElem?_getD, List.getElem?_eq_none (by omega)]; rfl
theorem nshort_loop {x : List Int} {d : Int} (hl : x.length ≤ 8000000) (hK : 2000000000 < K) (dx : DigB 1000000000 x) (hd : 1 ≤ d ∧ d ≤ 1000000000) :
    ∃ r : List Int × Int, g_nat_N_short_l0 K x d K (List.replicate x.length 0) 0 ((x.length : Int) - 1) = some r ∧ r.1.length = x.length ∧ DigB 1000000000 r.1 ∧ (0 ≤ r.2 ∧ r.2 < d) ∧ valB 1000000000 x = d * valB 1000000000 r.1 + r.2 := by
  refine loopW (fun k (s : List Int × Int × Int) => g_nat_N_short_l0 K x d k s.1 s.2.1 s.2.2) (fun s => ∃ j : Nat, s.2.2 = (j : Int) - 1 ∧ j ≤ x.length ∧ s.1.length = x.length ∧ DigB 1000000000 s.1 ∧ (0 ≤ s.2.1 ∧ s.2.1 < d) ∧ valB 1000000000 (x.drop j) = d * valB 1000000000 (s.1.drop j) + s.2.1) (fun s => (s.2.2 + 1).toNat) _ ?_ ((List.replicate x.length 0, 0, (x.length : Int) - 1) : List Int × Int × Int) (by dsimp only; omega) ⟨x.length, rfl, Nat.le_refl _, by simp, .zeros (by omega) _, by dsimp only; omega, by simp [valB]⟩
  rintro k ⟨out, c, _⟩ ⟨j, rfl, hj, h1, h2, h3, h4⟩
  dsimp only at h1 h2 h3 h4 ⊢
  by_cases h0 : j = 0
  · left
    subst h0
    rw [List.drop_zero, List.drop_zero] at h4
    exact ⟨(out, c), by rw [g_nat_N_short_l0]; simp (discharger := omega) only [decide_eq_true_eq, if_pos, if_neg, if_true, if_false, bsome, beq_iff, bne_iff, idxI, bidxI, sslI, lslI, k64, ku64, ku32, ku8, i64w, u64w, u32w, u8w, tdivI, tmodI, tu0a, tu1a, tu2a, tu3a, tu4a, tu5a, lta, bindSl, bindSr, outSl, outSr, Int.toNat_natCast, List.length_cons, List.length_nil, List.length_set, Int.toNat_zero, List.replicate_zero], h1, h2, h3, h4⟩
  · right
    obtain ⟨i, rfl⟩ : ∃ i, j = i + 1 := ⟨j - 1, by omega⟩
    have e1 : ((i + 1 : Nat) : Int) - 1 = i := by omega
    rw [e1]
    have ex := getD_dig (by omega) dx i
    have ax := drop_val x i
    generalize hu : x.getD i 0 = u at ex ax
    have hq0 : 0 ≤ (c * 1000000000 + u) / d := Int.ediv_nonneg (by omega) (by omega)
    have hqB : (c * 1000000000 + u) / d < 1000000000 := Int.ediv_lt_of_lt_mul (by omega) (by omega)
    have hr0 : 0 ≤ (c * 1000000000 + u) % d := Int.emod_nonneg _ (by omega)
    have hrd : (c * 1000000000 + u) % d < d := Int.emod_lt_of_pos _ (by omega)
    have hdm := Int.emod_add_mul_ediv (c * 1000000000 + u) d
    refine ⟨(out.set i ((c * 1000000000 + u) / d), (c * 1000000000 + u) % d, (i : Int) - 1), ?_, by dsimp only; omega, i, rfl, by omega, by simp [h1], h2.set _ ⟨hq0, hqB⟩, ⟨hr0, hrd⟩, ?_⟩
    · rw [g_nat_N_short_l0]
      have hd' : d ≠ 0 := by omega
      simp (discharger := omega) only [decide_eq_true_eq, if_pos, if_neg, if_true, if_false, bsome, beq_iff, bne_iff, idxI, bidxI, sslI, lslI, k64, ku64, ku32, ku8, i64w, u64w, u32w, u8w, tdivI, tmodI, tu0a, tu1a, tu2a, tu3a, tu4a, tu5a, lta, bindSl, bindSr, outSl, outSr, Int.toNat_natCast, List.length_cons, List.length_nil, List.length_set, Int.toNat_zero, List.replicate_zero, hu]
    · dsimp only
      rw [drop_val (out.set i _) i, List.drop_set_of_lt (by omega), getD_set (by omega), if_pos rfl, ax, h4]
      generalize (c * 1000000000 + u) / d = Q at *
      generalize (c * 1000000000 + u) % d = R at *
      grind
theorem digit_num {d : Int} (hd : 0 ≤ d ∧ d < 1000000000) (hK : 2000000000 < K) : ∃ z, g_nat_N_trim K [d] = some z ∧ NumN d z ∧ z.length ≤ 1 := by
  obtain ⟨t, t1, t2, t3, t4⟩ := trim_ok (K := K) (B := 1000000000) (l := [d]) (by simp) hK (fun x hx => by simp at hx; omega)
  exact ⟨t, t1, ⟨t2, by rw [t3]; simp [valB]⟩, by simpa using t4⟩
theorem div_mod_of {n d q r : Int} (hd : 0 < d) (h : n = d * q + r) (h0 : 0 ≤ r) (h1 : r < d) : q = n / d ∧ r = n % d := by
  have e1 : n / d = q := by
    rw [h, Int.add_comm, Int.add_mul_ediv_left _ _ (by omega), Int.ediv_eq_zero_of_lt h0 h1]; omega
  refine ⟨e1.symm, ?_⟩
  have := Int.emod_add_mul_ediv n d
  rw [e1] at this
  omega
theorem nshort_ok {x : List Int} {a d : Int} (hl : x.length ≤ 8000000) (hK : 2000000000 < K) (nx : NumN a x) (hd : 1 ≤ d ∧ d ≤ 1000000000) : ∃ q r, g_nat_N_short K x d = some (q, r) ∧ NumN (a / d) q ∧ NumN (a % d) r ∧ q.length ≤ x.length ∧ r.length ≤ 1 := by
  obtain ⟨⟨o, c⟩, h1, h2, h3, h4, h5⟩ := nshort_loop hl hK nx.1.1 hd
  dsimp only at h2 h3 h4 h5
  rw [nx.2] at h5
  obtain ⟨e1, e2⟩ := div_mod_of (by omega) h5 h4.1 h4.2
  obtain ⟨t, t1, t2, t3, t4⟩ := trim_ok (K := K) (B := 1000000000) (l := o) (by omega) hK h3
  obtain ⟨z, z1, z2, z3⟩ := digit_num (K := K) (d := c) (by omega) hK
  refine ⟨t, z, ?_, ⟨t2, by rw [t3, e1]⟩, by rw [← e2]; exact z2, by omega, z3⟩
  unfold g_nat_N_short
  simp (discharger := omega) only [decide_eq_true_eq, if_pos, if_neg, if_true, if_false, bsome, beq_iff, bne_iff, idxI, bidxI, sslI, lslI, k64, ku64, ku32, ku8, i64w, u64w, u32w, u8w, tdivI, tmodI, tu0a, tu1a, tu2a, tu3a, tu4a, tu5a, lta, bindSl, bindSr, outSl, outSr, Int.toNat_natCast, List.length_cons, List.length_nil, List.length_set, Int.toNat_zero, List.replicate_zero, h1, t1, z1]
end Go.Am.Tryd
/- Plain law: texts and the program's numbers: Read and Text. -/
namespace Go.Am.Tryd
open Go Go.Am Go.Proofs
set_option linter.unusedSimpArgs false
set_option linter.unusedVariables false
variable {K : Nat}
/-- The number of decimal digits given as bytes. -/
def numB (l : List Int) : Int := valB 10 ((l.map (· - 48)).reverse)
theorem numT_B (s : ByteArray) : numT s = numB (bytesOf s) := rfl
theorem numB_nil : numB [] = 0 := rfl
theorem numB_snoc (l : List Int) (c : Int) : numB (l ++ [c]) = numB l * 10 + (c - 48) := by
  unfold numB
  simp [valB]
  omega
theorem numB_app (l m : List Int) : numB (l ++ m) = numB m + 10 ^ m.length * numB l := by
  unfold numB
  rw [List.map_append, List.reverse_append, valB_app]
  simp
theorem numB_cons (c : Int) (l : List Int) : numB (c :: l) = numB l + 10 ^ l.length * (c - 48) := by
  have := numB_app [c] l
  simpa [numB, valB] using this
theorem numB_dig {l : List Int} (h : l.all digT = true) : DigB 10 ((l.map (· - 48)).reverse) := by
  intro d hd
  rw [List.mem_reverse, List.mem_map] at hd
  obtain ⟨c, hc, rfl⟩ := hd
  have := List.all_eq_true.1 h c hc
  simp only [digT, Bool.and_eq_true, decide_eq_true_eq] at this
  omega
theorem numB_nonneg {l : List Int} (h : l.all digT = true) : 0 ≤ numB l := valB_nonneg (by omega) _ (numB_dig h)
theorem numB_lt {l : List Int} (h : l.all digT = true) : numB l < 10 ^ l.length := by
  have := valB_lt (B := 10) (by omega) _ (numB_dig h)
  simpa [numB] using this
theorem digT_iff {c : Int} : digT c = true ↔ 48 ≤ c ∧ c ≤ 57 := by simp [digT]
theorem all_take {l : List Int} (h : l.all digT = true) (k : Nat) : (l.take k).all digT = true := List.all_eq_true.2 fun x hx => List.all_eq_true.1 h x (List.mem_of_mem_take hx)
theorem all_drop {l : List Int} (h : l.all digT = true) (k : Nat) : (l.drop k).all digT = true := List.all_eq_true.2 fun x hx => List.all_eq_true.1 h x (List.mem_of_mem_drop hx)
theorem take_snoc {l : List Int} {i : Nat} (h : i < l.length) : l.take (i + 1) = l.take i ++ [l.getD i 0] := by
  rw [List.take_add_one, List.getElem?_eq_getElem h, List.getD_eq_getElem?_getD, List.getElem?_eq_getElem h]; rfl
theorem getD_digT {l : List Int} (h : l.all digT = true) {i : Nat} (hi : i < l.length) : 48 ≤ l.getD i 0 ∧ l.getD i 0 ≤ 57 := by
  rw [List.getD_eq_getElem?_getD, List.getElem?_eq_getElem hi]
  exact digT_iff.1 (List.all_eq_true.1 h _ (List.getElem_mem hi))
theorem read_part {t : ByteArray} (ht : t.size ≤ 9) (hK : 2000000000 < K) (hd : (bytesOf t).all digT = true) : g_nat_Read_l2 K t K 0 0 = some (numT t) := by
  suffices h : ∃ r, g_nat_Read_l2 K t K 0 0 = some r ∧ r = numT t by obtain ⟨r, h1, rfl⟩ := h; exact h1
  have hn := bytesOf_length t
  refine loopW (fun k (s : Int × Int) => g_nat_Read_l2 K t k s.1 s.2) (fun s => ∃ i : Nat, s.2 = i ∧ i ≤ t.size ∧ s.1 = numB ((bytesOf t).take i)) (fun s => (t.size - s.2 : Int).toNat) _ ?_ ((0, 0) : Int × Int) (by simp; omega) ⟨0, rfl, by omega, by simp [numB_nil]⟩
  rintro k ⟨_, _⟩ ⟨i, rfl, h0, rfl⟩
  dsimp only
  by_cases hi : i < t.size
  · right
    have b1 := numB_nonneg (all_take hd i)
    have b2 := numB_lt (all_take hd i)
    have b3 : (10 : Int) ^ (List.take i (bytesOf t)).length ≤ 10 ^ 8 := by
      rw [List.length_take, hn, Nat.min_eq_left (by omega)]
      exact ipow_le (by omega) (by omega)
    have hc := getD_digT hd (i := i) (by omega)
    have hs := take_snoc (l := bytesOf t) (i := i) (by omega)
    have b4 : (10 : Int) ^ 8 = 100000000 := by decide
    refine ⟨(numB ((bytesOf t).take (i + 1)), (i : Int) + 1), ?_, by dsimp only; omega, i + 1, rfl, by omega, rfl⟩
    rw [g_nat_Read_l2, hs, numB_snoc]
    generalize numB ((bytesOf t).take i) = d at *
    rw [hn]
    have hi' : (i : Int) < ((bytesOf t).length : Int) := by omega
    simp (discharger := omega) only [decide_eq_true_eq, if_pos, if_neg, if_true, if_false, bsome, beq_iff, bne_iff, idxI, bidxI, sslI, lslI, k64, ku64, ku32, ku8, i64w, u64w, u32w, u8w, tdivI, tmodI, tu0a, tu1a, tu2a, tu3a, tu4a, tu5a, lta, bindSl, bindSr, outSl, outSr, Int.toNat_natCast, List.length_cons, List.length_nil, List.length_set, Int.toNat_zero, List.replicate_zero]
  · left
    have : i = t.size := by omega
    subst this
    refine ⟨numB ((bytesOf t).take t.size), by rw [g_nat_Read_l2, hn]; simp (discharger := omega) only [decide_eq_true_eq, if_pos, if_neg, if_true, if_false, bsome, beq_iff, bne_iff, idxI, bidxI, sslI, lslI, k64, ku64, ku32, ku8, i64w, u64w, u32w, u8w, tdivI, tmodI, tu0a, tu1a, tu2a, tu3a, tu4a, tu5a, lta, bindSl, bindSr, outSl, outSr, Int.toNat_natCast, List.length_cons, List.length_nil, List.length_set, Int.toNat_zero, List.replicate_zero], ?_⟩
    rw [List.take_of_length_le (by omega)]
    rfl
theorem read_loop {s : ByteArray} (hs : s.size ≤ 8000000) (hK : 2000000000 < K) (hd : (bytesOf s).all digT = true) :
    ∃ r : List Int, g_nat_Read_l0 K s K [] (s.size : Int) = some r ∧ 9 * r.length < s.size + 9 ∧ DigB 1000000000 r ∧ valB 1000000000 r = numT s := by
  have hn := bytesOf_length s
  refine loopW (fun k (q : List Int × Int) => g_nat_Read_l0 K s k q.1 q.2) (fun q => q.2 = (s.size : Int) - 9 * q.1.length ∧ 9 * q.1.length < s.size + 9 ∧ DigB 1000000000 q.1 ∧ valB 1000000000 q.1 + 1000000000 ^ q.1.length * numB ((bytesOf s).take q.2.toNat) = numT s) (fun q => (q.2 + 9).toNat) _ ?_ (([], (s.size : Int)) : List Int × Int) (by dsimp only; omega) ⟨by simp, by simp, .nil _, by simp [valB]; rw [List.take_of_length_le (by omega)]; rfl⟩
  rintro k ⟨out, e⟩ ⟨h1, h2, h3, h4⟩
  dsimp only at h1 h2 h3 h4 ⊢
  by_cases he : e > 0
  · right
    obtain ⟨lo, hlo, hm⟩ : ∃ lo : Nat, imax 0 (kwrap .i64 (e - 9)) = lo ∧ ((lo : Int) = e - 9 ∨ ((lo = 0) ∧ e < 9)) := by
      rw [k64 (by omega) (by omega)]
      unfold imax
      by_cases h9 : e - 9 > 0
      · exact ⟨(e - 9).toNat, by rw [if_pos h9]; omega, .inl (by omega)⟩
      · exact ⟨0, by rw [if_neg h9]; rfl, by omega⟩
    have hb : bytesOf (s.extract lo e.toNat) = ((bytesOf s).drop lo).take (e.toNat - lo) := bytesOf_extract _ _ _
    have hsz : (s.extract lo e.toNat).size = e.toNat - lo := by rw [← bytesOf_length, hb, List.length_take, List.length_drop]; omega
    have hdp : (bytesOf (s.extract lo e.toNat)).all digT = true := by rw [hb]; exact all_take (all_drop hd _) _
    have hp := read_part (K := K) (t := s.extract lo e.toNat) (by omega) hK hdp
    have hv0 := numB_nonneg hdp
    have hv1 := numB_lt hdp
    have hsplit : (bytesOf s).take e.toNat = (bytesOf s).take lo ++ bytesOf (s.extract lo e.toNat) := by
      rw [hb, show e.toNat = lo + (e.toNat - lo) by omega, List.take_add]; simp
    have hlen : (bytesOf (s.extract lo e.toNat)).length = e.toNat - lo := by rw [bytesOf_length]; exact hsz
    have hBv : numB (bytesOf (s.extract lo e.toNat)) < 1000000000 := by
      have : (10 : Int) ^ (bytesOf (s.extract lo e.toNat)).length ≤ 10 ^ 9 := ipow_le (by omega) (by omega)
      have e9 : (10 : Int) ^ 9 = 1000000000 := by decide
      omega
    refine ⟨(out ++ [numT (s.extract lo e.toNat)], e - 9), ?_, by dsimp only; omega, by simp; omega, by simp; omega, h3.snoc ⟨hv0, hBv⟩, ?_⟩
    · rw [g_nat_Read_l0, hlo]
      simp (discharger := omega) only [decide_eq_true_eq, if_pos, if_neg, if_true, if_false, bsome, beq_iff, bne_iff, idxI, bidxI, sslI, lslI, k64, ku64, ku32, ku8, i64w, u64w, u32w, u8w, tdivI, tmodI, tu0a, tu1a, tu2a, tu3a, tu4a, tu5a, lta, bindSl, bindSr, outSl, outSr, Int.toNat_natCast, List.length_cons, List.length_nil, List.length_set, Int.toNat_zero, List.replicate_zero, hp]
    · dsimp only
      rw [valB_snoc, List.length_append, List.length_singleton, Int.pow_succ, numT_B]
      rw [hsplit, numB_app, hlen] at h4
      rcases hm with hm | ⟨hm, h9⟩
      · have e9 : e.toNat - lo = 9 := by omega
        have e10 : (10 : Int) ^ 9 = 1000000000 := by decide
        have el : (e - 9).toNat = lo := by omega
        rw [e9, e10] at h4
        rw [el]
        grind
      · subst hm
        have el : (e - 9).toNat = 0 := by omega
        rw [el, List.take_zero, numB_nil] at *
        grind
  · left
    have el : e.toNat = 0 := by omega
    rw [el, List.take_zero, numB_nil] at h4
    exact ⟨out, by rw [g_nat_Read_l0]; simp (discharger := omega) only [decide_eq_true_eq, if_pos, if_neg, if_true, if_false, bsome, beq_iff, bne_iff, idxI, bidxI, sslI, lslI, k64, ku64, ku32, ku8, i64w, u64w, u32w, u8w, tdivI, tmodI, tu0a, tu1a, tu2a, tu3a, tu4a, tu5a, lta, bindSl, bindSr, outSl, outSr, Int.toNat_natCast, List.length_cons, List.length_nil, List.length_set, Int.toNat_zero, List.replicate_zero], h2, h3, by omega⟩
theorem read_ok {s : ByteArray} (hs : s.size ≤ 8000000) (hK : 2000000000 < K) (hd : (bytesOf s).all digT = true) : ∃ z, g_nat_Read K s = some z ∧ NumN (numT s) z ∧ 9 * z.length < s.size + 9 := by
  obtain ⟨r, h1, h2, h3, h4⟩ := read_loop hs hK hd
  obtain ⟨t, t1, t2, t3, t4⟩ := trim_ok (K := K) (B := 1000000000) (l := r) (by omega) hK h3
  exact ⟨t, by unfold g_nat_Read; simp (discharger := omega) only [decide_eq_true_eq, if_pos, if_neg, if_true, if_false, bsome, beq_iff, bne_iff, idxI, bidxI, sslI, lslI, k64, ku64, ku32, ku8, i64w, u64w, u32w, u8w, tdivI, tmodI, tu0a, tu1a, tu2a, tu3a, tu4a, tu5a, lta, bindSl, bindSr, outSl, outSr, Int.toNat_natCast, List.length_cons, List.length_nil, List.length_set, Int.toNat_zero, List.replicate_zero, h1, t1], ⟨t2, by rw [t3, h4]⟩, by omega⟩
theorem text_part {d : Int} (hd : 0 ≤ d ∧ d < 1000000000) (hK : 2000000000 < K) : ∃ p, g_nat_N_Text_l2 K K (List.replicate 9 0) d 8 = some p ∧ p.length = 9 ∧ p.all digT = true ∧ numB p = d := by
  refine loopW (fun k (s : List Int × Int × Int) => g_nat_N_Text_l2 K k s.1 s.2.1 s.2.2) (fun s => ∃ j : Nat, s.2.2 = (j : Int) - 1 ∧ j ≤ 9 ∧ s.1.length = 9 ∧ (s.1.drop j).all digT = true ∧ (0 ≤ s.2.1 ∧ s.2.1 ≤ d) ∧ d = s.2.1 * 10 ^ (9 - j) + numB (s.1.drop j)) (fun s => (s.2.2 + 1).toNat) _ ?_ ((List.replicate 9 0, d, 8) : List Int × Int × Int) (by simp; omega) ⟨9, rfl, by omega, by simp, by simp, by dsimp only; omega, by simp [numB_nil]⟩
  rintro k ⟨p, c, _⟩ ⟨j, rfl, hj, h1, h2, h3, h4⟩
  dsimp only at h1 h2 h3 h4 ⊢
  by_cases h0 : j = 0
  · subst h0
    left
    rw [List.drop_zero] at h2 h4
    have e9 : (10 : Int) ^ (9 - 0) = 1000000000 := by decide
    have := numB_nonneg h2
    rw [e9] at h4
    exact ⟨p, by rw [g_nat_N_Text_l2]; simp (discharger := omega) only [decide_eq_true_eq, if_pos, if_neg, if_true, if_false, bsome, beq_iff, bne_iff, idxI, bidxI, sslI, lslI, k64, ku64, ku32, ku8, i64w, u64w, u32w, u8w, tdivI, tmodI, tu0a, tu1a, tu2a, tu3a, tu4a, tu5a, lta, bindSl, bindSr, outSl, outSr, Int.toNat_natCast, List.length_cons, List.length_nil, List.length_set, Int.toNat_zero, List.replicate_zero], h1, h2, by omega⟩
  · right
    obtain ⟨i, rfl⟩ : ∃ i, j = i + 1 := ⟨j - 1, by omega⟩
    have e1 : ((i + 1 : Nat) : Int) - 1 = i := by omega
    rw [e1]
    have hx : (p.set i (48 + c % 10)).drop i = (48 + c % 10) :: p.drop (i + 1) := by
      rw [List.drop_eq_getElem_cons (by simp; omega), List.drop_set_of_lt (by omega)]
      simp
    have e2 : (10 : Int) ^ (9 - i) = 10 ^ (9 - (i + 1)) * 10 := by rw [← Int.pow_succ]; congr 1; omega
    have e3 : (p.drop (i + 1)).length = 9 - (i + 1) := by rw [List.length_drop, h1]
    have hdm := Int.emod_add_mul_ediv c 10
    refine ⟨(p.set i (48 + c % 10), c / 10, (i : Int) - 1), ?_, by dsimp only; omega, i, rfl, by omega, by simp [h1], ?_, by dsimp only; omega, ?_⟩
    · rw [g_nat_N_Text_l2]
      simp (discharger := omega) only [decide_eq_true_eq, if_pos, if_neg, if_true, if_false, bsome, beq_iff, bne_iff, idxI, bidxI, sslI, lslI, k64, ku64, ku32, ku8, i64w, u64w, u32w, u8w, tdivI, tmodI, tu0a, tu1a, tu2a, tu3a, tu4a, tu5a, lta, bindSl, bindSr, outSl, outSr, Int.toNat_natCast, List.length_cons, List.length_nil, List.length_set, Int.toNat_zero, List.replicate_zero]
    · dsimp only
      rw [hx, List.all_cons, h2, Bool.and_true]
      exact digT_iff.2 (by omega)
    · dsimp only
      rw [hx, numB_cons, e2, e3]
      generalize (10 : Int) ^ (9 - (i + 1)) = P at *
      grind
theorem text_loop' {x : List Int} (hx : x.length ≤ 1000000) (hK : 2000000000 < K) (dx : DigB 1000000000 x) : ∃ b, g_nat_N_Text_l0 K x K [] ((x.length : Int) - 1) = some b ∧ b.length = 9 * x.length ∧ b.all digT = true ∧ numB b = valB 1000000000 x := by
  refine loopW (fun k (s : List Int × Int) => g_nat_N_Text_l0 K x k s.1 s.2) (fun s => ∃ j : Nat, s.2 = (j : Int) - 1 ∧ j ≤ x.length ∧ s.1.length = 9 * (x.length - j) ∧ s.1.all digT = true ∧ numB s.1 = valB 1000000000 (x.drop j)) (fun s => (s.2 + 1).toNat) _ ?_ (([], (x.length : Int) - 1) : List Int × Int) (by dsimp only; omega) ⟨x.length, rfl, Nat.le_refl _, by simp, by simp, by simp [valB, numB_nil]⟩
  rintro k ⟨b, _⟩ ⟨j, rfl, hj, h1, h2, h4⟩
  dsimp only at h1 h2 h4 ⊢
  by_cases h0 : j = 0
  · subst h0
    left
    exact ⟨b, by rw [g_nat_N_Text_l0]; simp (discharger := omega) only [decide_eq_true_eq, if_pos, if_neg, if_true, if_false, bsome, beq_iff, bne_iff, idxI, bidxI, sslI, lslI, k64, ku64, ku32, ku8, i64w, u64w, u32w, u8w, tdivI, tmodI, tu0a, tu1a, tu2a, tu3a, tu4a, tu5a, lta, bindSl, bindSr, outSl, outSr, Int.toNat_natCast, List.length_cons, List.length_nil, List.length_set, Int.toNat_zero, List.replicate_zero], h1, h2, h4⟩
  · right
    obtain ⟨i, rfl⟩ : ∃ i, j = i + 1 := ⟨j - 1, by omega⟩
    have e1 : ((i + 1 : Nat) : Int) - 1 = i := by omega
    rw [e1]
    have ex := getD_dig (by omega) dx i
    obtain ⟨p, p1, p2, p3, p4⟩ := text_part (K := K) (d := x.getD i 0) ex hK
    have e9 : (10 : Int) ^ 9 = 1000000000 := by decide
    refine ⟨(b ++ p, (i : Int) - 1), ?_, by dsimp only; omega, i, rfl, by omega, by simp; omega, ?_, ?_⟩
    · rw [g_nat_N_Text_l0]
      simp (discharger := omega) only [decide_eq_true_eq, if_pos, if_neg, if_true, if_false, bsome, beq_iff, bne_iff, idxI, bidxI, sslI, lslI, k64, ku64, ku32, ku8, i64w, u64w, u32w, u8w, tdivI, tmodI, tu0a, tu1a, tu2a, tu3a, tu4a, tu5a, lta, bindSl, bindSr, outSl, outSr, Int.toNat_natCast, List.length_cons, List.length_nil, List.length_set, Int.toNat_zero, List.replicate_zero, p1]
    · dsimp only
      rw [List.all_append, h2, p3]; rfl
    · dsimp only
      rw [numB_app, p2, p4, h4, drop_val x i, e9]
theorem trimLeft_loop {n : Int} : ∀ k (s : ByteArray), s.size < k → s.size ≤ 16777216 → (bytesOf s).all digT = true → numT s = n → ∃ t, g_strings_trimLeftByte_l0 K 48 k s = some t ∧ (bytesOf t).all digT = true ∧ numT t = n ∧ (bytesOf t).head? ≠ some 48 ∧ t.size ≤ s.size := by
  intro k
  induction k with
  | zero => intro s h; omega
  | succ k ih =>
    intro s hk hb hd hn
    have hl := bytesOf_length s
    by_cases h0 : s.size > 0
    · cases hc : bytesOf s with
      | nil => rw [hc] at hl; simp at hl; omega
      | cons c l =>
        obtain ⟨t, t1, t2, t3⟩ := ssl_tail hc
        rw [hc] at hd hl
        simp only [List.all_cons, Bool.and_eq_true, List.length_cons] at hd hl
        have hcc : bidx s 0 = some c := by rw [bidx_eq, hc]; rfl
        by_cases h1 : c = 48
        · subst h1
          obtain ⟨r, r1, r2, r3, r4, r5⟩ := ih t (by omega) (by omega) (by rw [t2]; exact hd.2) (by rw [← hn, numT_B, numT_B, t2, hc, numB_cons]; simp)
          refine ⟨r, ?_, r2, r3, r4, by omega⟩
          rw [g_strings_trimLeftByte_l0, hcc, t1]
          simp (discharger := omega) only [decide_eq_true_eq, if_pos, if_neg, if_true, if_false, bsome, beq_iff, bne_iff, idxI, bidxI, sslI, lslI, k64, ku64, ku32, ku8, i64w, u64w, u32w, u8w, tdivI, tmodI, tu0a, tu1a, tu2a, tu3a, tu4a, tu5a, lta, bindSl, bindSr, outSl, outSr, Int.toNat_natCast, List.length_cons, List.length_nil, List.length_set, Int.toNat_zero, List.replicate_zero, r1]
        · refine ⟨s, ?_, by rw [hc]; simp [hd], hn, by rw [hc]; simp; omega, Nat.le_refl _⟩
          rw [g_strings_trimLeftByte_l0, hcc]
          simp (discharger := omega) only [decide_eq_true_eq, if_pos, if_neg, if_true, if_false, bsome, beq_iff, bne_iff, idxI, bidxI, sslI, lslI, k64, ku64, ku32, ku8, i64w, u64w, u32w, u8w, tdivI, tmodI, tu0a, tu1a, tu2a, tu3a, tu4a, tu5a, lta, bindSl, bindSr, outSl, outSr, Int.toNat_natCast, List.length_cons, List.length_nil, List.length_set, Int.toNat_zero, List.replicate_zero]
    · refine ⟨s, ?_, hd, hn, ?_, Nat.le_refl _⟩
      · rw [g_strings_trimLeftByte_l0]
        have e : (decide ((s.size : Int) > 0)) = false := decide_eq_false (by omega)
        rw [e]
        simp (discharger := omega) only [decide_eq_true_eq, if_pos, if_neg, if_true, if_false, bsome, beq_iff, bne_iff, idxI, bidxI, sslI, lslI, k64, ku64, ku32, ku8, i64w, u64w, u32w, u8w, tdivI, tmodI, tu0a, tu1a, tu2a, tu3a, tu4a, tu5a, lta, bindSl, bindSr, outSl, outSr, Int.toNat_natCast, List.length_cons, List.length_nil, List.length_set, Int.toNat_zero, List.replicate_zero, Bool.false_eq_true]
      · have : bytesOf s = [] := List.length_eq_zero_iff.1 (by omega)
        rw [this]; simp
theorem sEq_ne {s t : ByteArray} (h : s.size ≠ t.size) : sEq s t = false := by
  cases e : sEq s t with
  | false => rfl
  | true => rw [sEq_iff] at e; subst e; exact absurd rfl h
theorem trimLeft_ok {s : ByteArray} (hs : s.size ≤ 16777216) (hK : 2000000000 < K) (hp : 0 < numT s) (hd : (bytesOf s).all digT = true) : ∃ t, g_strings_TrimLeft K s ⟨#[48]⟩ = some t ∧ CanT t ∧ numT t = numT s ∧ t.size ≤ s.size := by
  obtain ⟨t, t1, t2, t3, t4, t5⟩ := trimLeft_loop (K := K) K s (by omega) hs hd rfl
  have ne : ∀ u : ByteArray, 0 < numT u → u.size ≠ 0 := fun u hu e => by
    have : bytesOf u = [] := List.length_eq_zero_iff.1 (by rw [bytesOf_length]; exact e)
    rw [numT_B, this, numB_nil] at hu; omega
  refine ⟨t, ?_, ⟨ne t (by omega), t2, fun h => absurd h t4⟩, t3, t5⟩
  unfold g_strings_TrimLeft g_strings_trimLeftByte
  have e1 : sEq s ⟨#[]⟩ = false := sEq_ne (ne s hp)
  have e2 : sEq ⟨#[48]⟩ ⟨#[]⟩ = false := sEq_ne (by decide)
  have e3 : bidx (⟨#[48]⟩ : ByteArray) 0 = some 48 := rfl
  have e4 : (((⟨#[48]⟩ : ByteArray).size : Int) == 1) = true := rfl
  rw [e1, e2, e3, e4]
  simp (discharger := omega) only [decide_eq_true_eq, if_pos, if_neg, if_true, if_false, bsome, beq_iff, bne_iff, idxI, bidxI, sslI, lslI, k64, ku64, ku32, ku8, i64w, u64w, u32w, u8w, tdivI, tmodI, tu0a, tu1a, tu2a, tu3a, tu4a, tu5a, lta, bindSl, bindSr, outSl, outSr, Int.toNat_natCast, List.length_cons, List.length_nil, List.length_set, Int.toNat_zero, List.replicate_zero, Bool.false_eq_true, t1]
theorem text_ok {x : List Int} {n : Int} (hx : x.length ≤ 1000000) (hK : 2000000000 < K) (nx : NumN n x) : ∃ t, g_nat_N_Text K x = some t ∧ CanT t ∧ numT t = n ∧ t.size ≤ 9 * x.length + 1 := by
  unfold g_nat_N_Text
  by_cases h0 : x = []
  · subst h0
    have e : n = 0 := nx.nil_iff.1 rfl
    subst e
    exact ⟨⟨#[48]⟩, rfl, ⟨by decide, rfl, fun _ => rfl⟩, rfl, by decide⟩
  · have hl : x.length ≠ 0 := fun e => h0 (List.length_eq_zero_iff.1 e)
    obtain ⟨b, b1, b2, b3, b4⟩ := text_loop' hx hK nx.1.1
    rw [nx.2] at b4
    have hr : ∀ c ∈ b, 0 ≤ c ∧ c ≤ 255 := fun c hc => by have := digT_iff.1 (List.all_eq_true.1 b3 c hc); omega
    have hb := bytesOf_str b hr
    have hsz : (strOfNums b).size = b.length := by rw [← bytesOf_length, hb]
    obtain ⟨t, t1, t2, t3, t4⟩ := trimLeft_ok (K := K) (s := strOfNums b) (by omega) hK (by rw [numT_B, hb, b4]; exact nx.pos h0) (by rw [hb]; exact b3)
    refine ⟨t, ?_, t2, by rw [t3, numT_B, hb, b4], by omega⟩
    have e : ((x.length : Int) == 0) = false := by simp; omega
    rw [e]
    simp (discharger := omega) only [decide_eq_true_eq, if_pos, if_neg, if_true, if_false, bsome, beq_iff, bne_iff, idxI, bidxI, sslI, lslI, k64, ku64, ku32, ku8, i64w, u64w, u32w, u8w, tdivI, tmodI, tu0a, tu1a, tu2a, tu3a, tu4a, tu5a, lta, bindSl, bindSr, outSl, outSr, Int.toNat_natCast, List.length_cons, List.length_nil, List.length_set, Int.toNat_zero, List.replicate_zero, Bool.false_eq_true, b1, t1]
end Go.Am.Tryd
/- Plain law: the reference's texts of digits. -/
namespace Go.Am.Tryd
open Go Go.Am Go.Proofs
set_option linter.unusedSimpArgs false
set_option linter.unusedVariables false
variable {K : Nat}
theorem head_bidx {s : ByteArray} {c : Int} {l : List Int} (h : bytesOf s = c :: l) : bidx s 0 = some c := by rw [bidx_eq, h]; rfl
theorem strip_loop : ∀ n k (s : ByteArray), s.size = n → n < k → 0 < n → (bytesOf s).all digT = true → ∃ t, g_R_strip_l0 K k s = some t ∧ CanT t ∧ numT t = numT s := by
  intro n
  induction n with
  | zero => intro k s _ _ h; omega
  | succ n ih =>
    intro k s hs hk _ hd
    obtain ⟨k, rfl⟩ : ∃ m, k = m + 1 := ⟨k - 1, by omega⟩
    have hn := bytesOf_length s
    cases hb : bytesOf s with
    | nil => rw [hb] at hn; simp at hn; omega
    | cons c l =>
      rw [g_R_strip_l0, head_bidx hb]
      by_cases h1 : (s.size : Int) > 1
      · by_cases h2 : c = 48
        · obtain ⟨t, h3, h4, h5⟩ := ssl_tail hb
          have hl : l.length = n := by rw [hb] at hn; simp at hn; omega
          obtain ⟨r, h6, h7, h8⟩ := ih k t (by omega) (by omega) (by omega) (by rw [h4]; rw [hb] at hd; simp only [List.all_cons, Bool.and_eq_true] at hd; exact hd.2)
          refine ⟨r, ?_, h7, ?_⟩
          · simp [h1, h2, h3, h6, tu1]
          · rw [h8, numT_cons (s := s) (t := t) (c := c) (by rw [hb, h4]), h2]; simp
        · refine ⟨s, by simp [h1, h2, tu1], ⟨by omega, hd, fun e => ?_⟩, rfl⟩
          rw [hb] at e; simp at e; exact absurd e h2
      · exact ⟨s, by simp [h1, tu1], ⟨by omega, hd, fun e => by omega⟩, rfl⟩
theorem strip_ref {s : ByteArray} (hs : s.size ≤ 1048576) (h0 : 0 < s.size) (hK : s.size < K) (hd : (bytesOf s).all digT = true) : ∃ t, g_R_strip K s = some t ∧ CanT t ∧ numT t = numT s := by
  obtain ⟨t, h1, h2⟩ := strip_loop (K := K) s.size K s rfl hK h0 hd
  exact ⟨t, by unfold g_R_strip; rw [h1]; rfl, h2⟩
theorem digit_ref {s : ByteArray} (hs : s.size ≤ 1048576) (hd : (bytesOf s).all digT = true) (k : Nat) (hk : k ≤ 1048577) : g_R_digit K s k = some ((digsT s).getD k 0) := by
  have hn := bytesOf_length s
  unfold g_R_digit
  by_cases h : k < s.size
  · have h' : ((k : Int) < (s.size : Int)) := by omega
    have hi : s.size - 1 - k < (bytesOf s).length := by omega
    have e1 : kwrap .i64 (kwrap .i64 ((s.size : Int) - 1) - (k : Int)) = ((s.size - 1 - k : Nat) : Int) := by
      rw [kw (a := (s.size : Int) - 1) (by omega) (by omega), kw (by omega) (by omega)]; omega
    have hx : (bytesOf s)[s.size - 1 - k]? = some (bytesOf s)[s.size - 1 - k] := List.getElem?_eq_getElem hi
    have hc := List.all_eq_true.1 hd _ (List.getElem_mem hi)
    simp only [digT, Bool.and_eq_true, decide_eq_true_eq] at hc
    rw [decide_eq_true h', if_pos rfl, e1, bidx_eq, idx_nat hx]
    have hg : (digsT s).getD k 0 = (bytesOf s)[s.size - 1 - k] - 48 := by
      unfold digsT
      rw [List.getD_eq_getElem?_getD, List.getElem?_reverse (by simp; omega), List.length_map, hn, List.getElem?_map, hx]
      rfl
    rw [hg]
    generalize (bytesOf s)[s.size - 1 - k] = c at hc
    have e2 : kwrap .u8 (c - 48) = c - 48 := kwrap_in (by simp [krange]; omega)
    have e3 : IntKind.wrap .i64 (c - 48) = c - 48 := by rw [← kwrap_eq]; exact kw (by omega) (by omega)
    simp [e2, e3]
  · have h' : ¬ ((k : Int) < (s.size : Int)) := by omega
    rw [decide_eq_false h', if_neg (by simp)]
    congr 1
    rw [List.getD_eq_getElem?_getD, List.getElem?_eq_none (by rw [digsT_len]; omega)]
    rfl
theorem u8_in {x : Int} (h : 0 ≤ x) (h' : x ≤ 255) : kwrap .u8 x = x := kwrap_in (by simp [krange]; omega)
theorem text_loop {l : List Int} (hl : l.length ≤ 1048577) (hK : l.length < K) (hd : DigB 10 l) : g_R_text_l0 K l K (List.replicate l.length 0) 0 = some (l.map (48 + ·)).reverse := by
  suffices h : ∃ r, g_R_text_l0 K l K (List.replicate l.length 0) 0 = some r ∧ r = (l.map (48 + ·)).reverse by
    obtain ⟨r, h1, rfl⟩ := h; exact h1
  refine loop_inv (S := List Int) l.length (fun k s i => g_R_text_l0 K l k s i) (fun b i => b.length = l.length ∧ ∀ j < l.length, b.getD j 0 = if l.length - 1 - j < i then 48 + l.getD (l.length - 1 - j) 0 else 0) _ ?_ ?_ K _ hK ⟨by simp, fun j hj => by simp [List.getD_eq_getElem?_getD, hj]⟩
  · rintro k b i hi ⟨hb, hj⟩
    right
    have hp : l.length - 1 - i < b.length := by omega
    have e1 : kwrap .i64 (kwrap .i64 ((l.length : Int) - 1) - (i : Int)) = ((l.length - 1 - i : Nat) : Int) := by
      rw [kw (a := (l.length : Int) - 1) (by omega) (by omega), kw (by omega) (by omega)]; omega
    have hx := hd (l.getD i 0) (by rw [List.getD_eq_getElem?_getD, List.getElem?_eq_getElem hi]; simp)
    have e2 : IntKind.wrap .u8 (kwrap .i64 (48 + l.getD i 0)) = 48 + l.getD i 0 := by
      rw [kw (a := 48 + l.getD i 0) (by omega) (by omega), ← kwrap_eq]; exact u8_in (by omega) (by omega)
    refine ⟨b.set (l.length - 1 - i) (48 + l.getD i 0), ⟨by simp [hb], fun j hjl => ?_⟩, ?_⟩
    · have hg : (b.set (l.length - 1 - i) (48 + l.getD i 0)).getD j 0 = if j = l.length - 1 - i then 48 + l.getD i 0 else b.getD j 0 := getD_set hp
      rw [hg, hj j hjl]
      by_cases e : j = l.length - 1 - i
      · have e3 : l.length - 1 - j = i := by omega
        rw [if_pos e, e3, if_pos (Nat.lt_succ_self i)]
      · rw [if_neg e]
        by_cases e3 : l.length - 1 - j < i
        · rw [if_pos e3, if_pos (by omega)]
        · rw [if_neg e3, if_neg (by omega)]
    · show g_R_text_l0 K l (k + 1) b i = _
      rw [g_R_text_l0, lt_nat hi, if_pos rfl, idx_getD hi]
      simp only [Option.bind_some, e1, idx_getD hp, e2, Int.toNat_natCast, kw1 hi (by omega)]
  · rintro k b i rfl ⟨hb, hj⟩
    refine ⟨b, ?_, ?_⟩
    · show g_R_text_l0 K l (k + 1) b l.length = _
      rw [g_R_text_l0, nlt_nat (Nat.le_refl _)]; simp
    · apply List.ext_getElem (by simp [hb])
      intro j h1 h2
      have h3 := hj j (by omega)
      rw [if_pos (by omega), List.getD_eq_getElem?_getD, List.getElem?_eq_getElem h1, List.getD_eq_getElem?_getD, List.getElem?_eq_getElem (show l.length - 1 - j < l.length by omega)] at h3
      simp at h3
      simp [h3]
/-- The text of digits. -/
theorem text_ref {l : List Int} (hl : l.length ≤ 1048575) (h0 : l ≠ []) (hK : l.length + 1 < K) (hd : DigB 10 l) : ∃ t, g_R_text K l = some t ∧ CanT t ∧ numT t = valB 10 l := by
  have hlen : 0 < l.length := by cases l with | nil => exact absurd rfl h0 | cons _ _ => simp
  have hrange : ∀ x ∈ (l.map (48 + ·)).reverse, 0 ≤ x ∧ x ≤ 255 := fun x hx => by
    rw [List.mem_reverse, List.mem_map] at hx
    obtain ⟨d, h1, rfl⟩ := hx
    have := hd d h1
    omega
  have hb := bytesOf_str _ hrange
  have hz : bytesOf ((⟨#[48]⟩ : ByteArray) ++ strOfNums (l.map (48 + ·)).reverse) = 48 :: (l.map (48 + ·)).reverse := by
    rw [bytesOf_append, hb]; rfl
  have hsz : ((⟨#[48]⟩ : ByteArray) ++ strOfNums (l.map (48 + ·)).reverse).size = l.length + 1 := by
    rw [← bytesOf_length, hz]; simp
  have hdg : (bytesOf ((⟨#[48]⟩ : ByteArray) ++ strOfNums (l.map (48 + ·)).reverse)).all digT = true := by
    rw [hz, List.all_eq_true]
    intro x hx
    rcases List.mem_cons.1 hx with rfl | hx
    · rfl
    · rw [List.mem_reverse, List.mem_map] at hx
      obtain ⟨d, h1, rfl⟩ := hx
      have := hd d h1
      simp [digT]; omega
  obtain ⟨t, h1, h2, h3⟩ := strip_ref (K := K) (s := (⟨#[48]⟩ : ByteArray) ++ strOfNums (l.map (48 + ·)).reverse) (by omega) (by omega) (by omega) hdg
  refine ⟨t, ?_, h2, ?_⟩
  · unfold g_R_text
    rw [if_pos (by omega), Int.toNat_natCast, text_loop (by omega) (by omega) hd]
    have e1 : (⟨#[48]⟩ : ByteArray).size = 1 := rfl
    simp only [Option.bind_some, tu1, List.length_reverse, List.length_map, strOfNums_size, e1]
    rw [if_pos hlen, if_pos (by omega), h1]
    rfl
  · rw [h3]
    unfold numT digsT
    rw [hz, List.map_cons, List.reverse_cons, valB_app, List.map_reverse, List.reverse_reverse, List.map_map]
    have : l.map ((fun x => x - 48) ∘ (fun x => 48 + x)) = l := by
      conv => rhs; rw [← List.map_id l]
      apply List.map_congr_left
      intro x _
      show 48 + x - 48 = x
      omega
    rw [this]
    simp [valB]
end Go.Am.Tryd
/- Plain law: the reference's sum and difference of texts. -/
namespace Go.Am.Tryd
open Go Go.Am Go.Proofs
set_option linter.unusedSimpArgs false
set_option linter.unusedVariables false
variable {K : Nat}
theorem take_val (B : Int) (x : List Int) (k : Nat) : valB B (x.take (k + 1)) = valB B (x.take k) + B ^ k * x.getD k 0 := by
  by_cases h : k < x.length
  · have hx : x[k]? = some x[k] := List.getElem?_eq_getElem h
    rw [List.take_add_one, hx, valB_app, List.length_take, Nat.min_eq_left (by omega), List.getD_eq_getElem?_getD, hx]
    simp [valB]
  · rw [List.take_of_length_le (by omega), List.take_of_length_le (by omega), List.getD_eq_getElem?_getD, List.getElem?_eq_none (by omega)]
    simp
theorem dig_at {B : Int} (hB : 0 < B) {x : List Int} (h : DigB B x) (k : Nat) : 0 ≤ x.getD k 0 ∧ x.getD k 0 < B := by
  by_cases hk : k < x.length
  · rw [List.getD_eq_getElem?_getD, List.getElem?_eq_getElem hk]
    exact h _ (List.getElem_mem hk)
  · rw [List.getD_eq_getElem?_getD, List.getElem?_eq_none (by omega)]
    simp [hB]
theorem sub_ref {a b : ByteArray} (ha : a.size ≤ 1000000) (hb : b.size ≤ a.size) (h0 : 0 < a.size) (hK : 1048580 < K) (da : (bytesOf a).all digT = true) (db : (bytesOf b).all digT = true) (hle : numT b ≤ numT a) : ∃ t, g_R_NatSub K a b = some t ∧ CanT t ∧ numT t = numT a - numT b := by
  have dx := digsT_dig da
  have dy := digsT_dig db
  have lx := digsT_len a
  have ly := digsT_len b
  have key : ∃ r, g_R_NatSub_l0 K a b K [] 0 0 = some r ∧ r ≠ [] ∧ r.length ≤ 1048575 ∧ DigB 10 r ∧ valB 10 r = numT a - numT b := by
    refine loop_inv (S := List Int × Int) a.size (fun k s i => g_R_NatSub_l0 K a b k s.1 s.2 i) (fun s i => s.1.length = i ∧ DigB 10 s.1 ∧ (0 ≤ s.2 ∧ s.2 ≤ 1) ∧ valB 10 s.1 + valB 10 ((digsT b).take i) = valB 10 ((digsT a).take i) + 10 ^ i * s.2) _ ?_ ?_ K ([], 0) (by omega) ⟨rfl, DigB.nil 10, ⟨by omega, by omega⟩, by simp [valB]⟩
    · rintro k ⟨out, c⟩ i hi ⟨h1, h2, h3, h4⟩
      simp only at h1 h2 h3 h4
      right
      have ex := dig_at (by omega) dx i
      have ey := dig_at (by omega) dy i
      show ∃ s', _ ∧ g_R_NatSub_l0 K a b (k + 1) out c i = _
      rw [g_R_NatSub_l0, lt_nat hi, if_pos rfl, digit_ref (by omega) da i (by omega), digit_ref (by omega) db i (by omega)]
      have tx := take_val 10 (digsT a) i
      have ty := take_val 10 (digsT b) i
      generalize (digsT a).getD i 0 = x at ex tx
      generalize (digsT b).getD i 0 = y at ey ty
      have e1 : kwrap .i64 (x - y) = x - y := kw (by omega) (by omega)
      have e2 : kwrap .i64 (x - y - c) = x - y - c := kw (by omega) (by omega)
      have e3 : kwrap .i64 (x - y - c + 10) = x - y - c + 10 := kw (by omega) (by omega)
      simp only [Option.bind_some, e1, e2, e3, lt, tu2, List.length_cons, List.length_nil, kw1 hi (by omega)]
      have h9 : out.length + (0 + 1) ≤ 16777216 := by omega
      by_cases hn : x - y - c < 0
      · refine ⟨(out ++ [x - y - c + 10], 1), ⟨by simp [h1], h2.app (fun d hd => by simp at hd; omega), ⟨by omega, by omega⟩, ?_⟩, ?_⟩
        · simp only
          rw [valB_app, h1, tx, ty, Int.pow_succ]
          simp only [valB, Int.mul_zero, Int.add_zero, Int.mul_one]
          generalize valB 10 ((digsT a).take i) = A at h4
          generalize valB 10 ((digsT b).take i) = B at h4
          generalize valB 10 out = C at h4
          generalize (10 : Int) ^ i = p at h4
          rw [Int.mul_add, Int.mul_sub, Int.mul_sub]
          omega
        · rw [decide_eq_true hn]
          simp only [if_true, Option.bind_some, if_pos h9, tu2]
      · refine ⟨(out ++ [x - y - c], 0), ⟨by simp [h1], h2.app (fun d hd => by simp at hd; omega), ⟨by omega, by omega⟩, ?_⟩, ?_⟩
        · simp only
          rw [valB_app, h1, tx, ty, Int.pow_succ]
          simp only [valB, Int.mul_zero, Int.add_zero]
          generalize valB 10 ((digsT a).take i) = A at h4
          generalize valB 10 ((digsT b).take i) = B at h4
          generalize valB 10 out = C at h4
          generalize (10 : Int) ^ i = p at h4
          rw [Int.mul_sub, Int.mul_sub]
          omega
        · rw [decide_eq_false hn]
          simp only [Bool.false_eq_true, if_false, Option.bind_some, if_pos h9, tu2]
    · rintro k ⟨out, c⟩ i rfl ⟨h1, h2, h3, h4⟩
      simp only at h1 h2 h3 h4
      rw [List.take_of_length_le (by omega), List.take_of_length_le (by omega)] at h4
      have p3 := valB_lt (B := 10) (by omega) _ h2
      rw [h1] at p3
      have hle' : valB 10 (digsT b) ≤ valB 10 (digsT a) := hle
      have hc0 : c = 0 := by
        by_cases e : c = 0
        · exact e
        · have e1 : c = 1 := by omega
          rw [e1, Int.mul_one] at h4
          omega
      subst hc0
      refine ⟨out, ?_, ?_, by omega, h2, by unfold numT; omega⟩
      · show g_R_NatSub_l0 K a b (k + 1) out 0 _ = _
        rw [g_R_NatSub_l0, nlt_nat (Nat.le_refl _)]; simp
      · intro e; rw [e] at h1; simp at h1; omega
  obtain ⟨r, h1, h2, h3, h4, h5⟩ := key
  obtain ⟨t, h6, h7, h8⟩ := text_ref (K := K) h3 h2 (by omega) h4
  refine ⟨t, ?_, h7, by rw [h8, h5]⟩
  unfold g_R_NatSub
  rw [h1]
  simp only [Option.bind_some, tu1, h6]
end Go.Am.Tryd
/- Plain law: the reference's comparison, product, quotient and divisor of texts. -/
namespace Go.Am.Tryd
open Go Go.Am Go.Proofs
set_option linter.unusedSimpArgs false
set_option linter.unusedVariables false
variable {K : Nat}
/-! ### Canonical texts -/
theorem numT_nonneg {s : ByteArray} (h : (bytesOf s).all digT = true) : 0 ≤ numT s := numB_nonneg h
theorem numT_lt {s : ByteArray} (h : (bytesOf s).all digT = true) : numT s < 10 ^ s.size := by
  have := numB_lt h
  rwa [bytesOf_length] at this
/-- A canonical text of two or more digits is not small. -/
theorem canT_ge {s : ByteArray} (h : CanT s) (h2 : 2 ≤ s.size) : (10 : Int) ^ (s.size - 1) ≤ numT s := by
  have hh : (bytesOf s).head? ≠ some 48 := fun e => by have := h.2.2 e; omega
  have h3 := can_ge (B := 10) (by omega) (canT_can h hh) (by intro e; have := digsT_len s; rw [e] at this; simp at this; omega)
  rwa [digsT_len] at h3
theorem canT_small {a b : ByteArray} (ha : (bytesOf a).all digT = true) (hb : CanT b) (h0 : a.size ≠ 0) (h : a.size < b.size) : numT a < numT b := by
  have h1 := numT_lt ha
  have h2 := canT_ge hb (by omega)
  have h3 : (10 : Int) ^ a.size ≤ 10 ^ (b.size - 1) := ipow_le (by omega) (by omega)
  omega
theorem canT_size {a b : ByteArray} (ha : CanT a) (hb : CanT b) (h : numT b ≤ numT a) : b.size ≤ a.size := by
  refine Nat.not_lt.1 fun hl => ?_
  have := canT_small ha.2.1 hb ha.1 hl
  omega
theorem canT_zero : CanT ⟨#[48]⟩ := ⟨by decide, rfl, fun _ => rfl⟩
theorem numT_zero : numT ⟨#[48]⟩ = 0 := rfl
theorem canT_one : CanT ⟨#[49]⟩ := ⟨by decide, rfl, fun h => by simp [bytesOf] at h⟩
theorem numT_one : numT ⟨#[49]⟩ = 1 := rfl
theorem canT_eq0 {s : ByteArray} (h : CanT s) : numT s = 0 ↔ s = ⟨#[48]⟩ := ⟨fun e => numT_inj h canT_zero (by rw [e, numT_zero]), fun e => by rw [e, numT_zero]⟩
theorem bytesLess_num : ∀ (x y : List UInt8), x.length = y.length → (x.map fun b => (b.toNat : Int)).all digT = true → (y.map fun b => (b.toNat : Int)).all digT = true → (Op.bytesLess x y = true ↔ numB (x.map fun b => (b.toNat : Int)) < numB (y.map fun b => (b.toNat : Int)))
  | [], [], _, _, _ => by simp [Op.bytesLess]
  | [], _ :: _, h, _, _ => by simp at h
  | _ :: _, [], h, _, _ => by simp at h
  | a :: x, b :: y, h, hx, hy => by
    simp only [List.map_cons, List.all_cons, Bool.and_eq_true] at hx hy
    simp only [List.length_cons, Nat.add_right_cancel_iff] at h
    have ih := bytesLess_num x y h hx.2 hy.2
    have dx := digT_iff.1 hx.1
    have dy := digT_iff.1 hy.1
    simp only [Op.bytesLess, List.map_cons, numB_cons, List.length_map, h]
    have lx0 := numB_nonneg hx.2
    have lx1 := numB_lt hx.2
    have ly0 := numB_nonneg hy.2
    have ly1 := numB_lt hy.2
    rw [List.length_map] at lx1 ly1
    rw [h] at lx1
    generalize numB (x.map fun b => (b.toNat : Int)) = X at *
    generalize numB (y.map fun b => (b.toNat : Int)) = Y at *
    have p0 : (0 : Int) < 10 ^ y.length := Int.pow_pos (by omega)
    generalize (10 : Int) ^ y.length = P at *
    rw [Bool.or_eq_true, Bool.and_eq_true, ih, decide_eq_true_eq, beq_iff_eq, UInt8.lt_iff_toNat_lt]
    rcases Nat.lt_trichotomy a.toNat b.toNat with h1 | h1 | h1
    · have := mul_le (Int.le_of_lt p0) (show ((a.toNat : Int) - 48) + 1 ≤ (b.toNat : Int) - 48 by omega)
      rw [Int.mul_add, Int.mul_one] at this
      exact ⟨fun _ => by omega, fun _ => .inl h1⟩
    · have e : a = b := UInt8.toNat_inj.1 h1
      subst e
      exact ⟨fun h => by rcases h with h | h <;> omega, fun h => .inr ⟨rfl, by omega⟩⟩
    · have := mul_le (Int.le_of_lt p0) (show ((b.toNat : Int) - 48) + 1 ≤ (a.toNat : Int) - 48 by omega)
      rw [Int.mul_add, Int.mul_one] at this
      refine ⟨fun h => ?_, fun h => by omega⟩
      rcases h with h | ⟨h, _⟩
      · omega
      · subst h; omega
theorem sLt_num {a b : ByteArray} (h : a.size = b.size) (ha : (bytesOf a).all digT = true) (hb : (bytesOf b).all digT = true) : sLt a b = decide (numT a < numT b) := by
  have := bytesLess_num a.data.toList b.data.toList (by simpa using h) ha hb
  unfold sLt
  rw [ByteArray.toList_eq, ByteArray.toList_eq]
  by_cases c : numT a < numT b
  · rw [decide_eq_true c]; exact this.2 c
  · rw [decide_eq_false c]
    cases e : Op.bytesLess a.data.toList b.data.toList with
    | false => rfl
    | true => exact absurd (this.1 e) c
theorem cmp_ref {a b : ByteArray} (ha : CanT a) (hb : CanT b) : g_R_NatCmp K a b = some (if numT a < numT b then -1 else if numT a = numT b then 0 else 1) := by
  unfold g_R_NatCmp
  by_cases h1 : a.size < b.size
  · have := canT_small ha.2.1 hb ha.1 h1
    simp (discharger := omega) only [decide_eq_true_eq, if_pos, if_neg, if_true, if_false, bsome, beq_iff, bne_iff, idxI, bidxI, sslI, lslI, k64, ku64, ku32, ku8, i64w, u64w, u32w, u8w, tdivI, tmodI, tu0a, tu1a, tu2a, tu3a, tu4a, tu5a, lta, bindSl, bindSr, outSl, outSr, Int.toNat_natCast, List.length_cons, List.length_nil, List.length_set, Int.toNat_zero, List.replicate_zero]
  · by_cases h2 : a.size > b.size
    · have := canT_small hb.2.1 ha hb.1 h2
      simp (discharger := omega) only [decide_eq_true_eq, if_pos, if_neg, if_true, if_false, bsome, beq_iff, bne_iff, idxI, bidxI, sslI, lslI, k64, ku64, ku32, ku8, i64w, u64w, u32w, u8w, tdivI, tmodI, tu0a, tu1a, tu2a, tu3a, tu4a, tu5a, lta, bindSl, bindSr, outSl, outSr, Int.toNat_natCast, List.length_cons, List.length_nil, List.length_set, Int.toNat_zero, List.replicate_zero]
    · have he : a.size = b.size := by omega
      rw [if_neg (by simp; omega), if_neg (by simp; omega), sLt_num he ha.2.1 hb.2.1]
      by_cases c : numT a < numT b
      · simp (discharger := omega) only [decide_eq_true_eq, if_pos, if_neg, if_true, if_false, bsome, beq_iff, bne_iff, idxI, bidxI, sslI, lslI, k64, ku64, ku32, ku8, i64w, u64w, u32w, u8w, tdivI, tmodI, tu0a, tu1a, tu2a, tu3a, tu4a, tu5a, lta, bindSl, bindSr, outSl, outSr, Int.toNat_natCast, List.length_cons, List.length_nil, List.length_set, Int.toNat_zero, List.replicate_zero]
      · by_cases d : numT a = numT b
        · have : a = b := numT_inj ha hb d
          subst this
          have e : sEq a a = true := sEq_iff.2 rfl
          simp [e]
        · have e : sEq a b = false := by
            cases e : sEq a b with
            | false => rfl
            | true => rw [sEq_iff] at e; subst e; exact absurd rfl d
          simp [e, c, d]
/-! ### Products -/
theorem rmul_in {b : ByteArray} {out : List Int} {u : Int} {i : Nat} (hb : b.size ≤ 1000000) (hl : i + b.size < out.length) (ho : out.length ≤ 8000000) (hK : 2000000000 < K) (hu : 0 ≤ u ∧ u ≤ 9) (db : (bytesOf b).all digT = true) (d0 : DigB 10 out) :
    ∃ r : List Int, g_R_NatMul_l2 K b (i : Int) u K out 0 = some r ∧ r.length = out.length ∧ (∀ j, 0 ≤ r.getD j 0 ∧ r.getD j 0 ≤ 90) ∧ valB 10 r = valB 10 out + 10 ^ i * (u * numT b) := by
  have dx := digsT_dig db
  have lx := digsT_len b
  refine loopW (fun k (s : List Int × Int) => g_R_NatMul_l2 K b (i : Int) u k s.1 s.2) (fun s => ∃ q : Nat, s.2 = q ∧ q ≤ b.size ∧ s.1.length = out.length ∧ (∀ j, 0 ≤ s.1.getD j 0 ∧ s.1.getD j 0 ≤ 90) ∧ (∀ j, i + q ≤ j → s.1.getD j 0 ≤ 9) ∧ valB 10 s.1 = valB 10 out + 10 ^ i * (u * valB 10 ((digsT b).take q))) (fun s => (b.size - s.2 : Int).toNat) _ ?_ ((out, 0) : List Int × Int) (by simp; omega) ⟨0, rfl, by omega, rfl, fun j => by have := getD_dig (by omega) d0 j; dsimp only; omega, fun j _ => by have := getD_dig (by omega) d0 j; dsimp only; omega, by simp [valB]⟩
  rintro k ⟨o, _⟩ ⟨q, rfl, h0, h1, h2, h3, h4⟩
  dsimp only at h1 h2 h3 h4 ⊢
  by_cases hq : q < b.size
  · right
    have ey := getD_dig (by omega) dx q
    have eo := h2 (i + q)
    have eo9 := h3 (i + q) (Nat.le_refl _)
    have ty := valB_take 10 (digsT b) q
    have hdg := digit_ref (K := K) (s := b) (by omega) db q (by omega)
    have hm : 0 ≤ u * (digsT b).getD q 0 ∧ u * (digsT b).getD q 0 ≤ 81 := by
      have := mul_le hu.1 (show (digsT b).getD q 0 ≤ 9 by omega)
      exact ⟨mul_nn hu.1 ey.1, by omega⟩
    have hset := fun d => valB_set 10 o (i + q) d (by omega)
    have hgs := fun d j => getD_set (cs := o) (i := i + q) (j := j) (v := d) (by omega)
    have e1 : ((i : Int) + (q : Int)) = ((i + q : Nat) : Int) := by omega
    generalize hw : u * (digsT b).getD q 0 = w at hm
    generalize ho : o.getD (i + q) 0 = z at eo eo9 hset
    refine ⟨(o.set (i + q) (z + w), (q : Int) + 1), ?_, by dsimp only; omega, q + 1, rfl, by omega, by simp [h1], fun j => ?_, fun j hj => ?_, ?_⟩
    · rw [g_R_NatMul_l2, hdg]
      simp (discharger := omega) only [decide_eq_true_eq, if_pos, if_neg, if_true, if_false, bsome, beq_iff, bne_iff, idxI, bidxI, sslI, lslI, k64, ku64, ku32, ku8, i64w, u64w, u32w, u8w, tdivI, tmodI, tu0a, tu1a, tu2a, tu3a, tu4a, tu5a, lta, bindSl, bindSr, outSl, outSr, Int.toNat_natCast, List.length_cons, List.length_nil, List.length_set, Int.toNat_zero, List.replicate_zero, e1, hw, ho]
    · dsimp only; rw [hgs]; split
      · omega
      · exact h2 j
    · dsimp only; rw [hgs, if_neg (by omega)]; exact h3 j (by omega)
    · dsimp only
      rw [hset, h4, ty, ← hw, Int.pow_add]
      grind
  · left
    have : q = b.size := by omega
    subst this
    rw [List.take_of_length_le (by omega)] at h4
    exact ⟨o, by rw [g_R_NatMul_l2]; simp (discharger := omega) only [decide_eq_true_eq, if_pos, if_neg, if_true, if_false, bsome, beq_iff, bne_iff, idxI, bidxI, sslI, lslI, k64, ku64, ku32, ku8, i64w, u64w, u32w, u8w, tdivI, tmodI, tu0a, tu1a, tu2a, tu3a, tu4a, tu5a, lta, bindSl, bindSr, outSl, outSr, Int.toNat_natCast, List.length_cons, List.length_nil, List.length_set, Int.toNat_zero, List.replicate_zero], h1, h2, h4⟩
theorem rmul_carry {c v : List Int} (hv : v.length + 1 = c.length) (hl : c.length ≤ 8000000) (hK : 2000000000 < K) (hc : ∀ j, 0 ≤ c.getD j 0 ∧ c.getD j 0 ≤ 90) :
    ∃ r : List Int, g_R_NatMul_l4 K v K c 0 = some r ∧ r.length = c.length ∧ (∀ j, 0 ≤ r.getD j 0) ∧ (∀ j < v.length, r.getD j 0 ≤ 9) ∧ valB 10 r = valB 10 c := by
  refine loopW (fun k (s : List Int × Int) => g_R_NatMul_l4 K v k s.1 s.2) (fun s => ∃ i : Nat, s.2 = i ∧ i ≤ v.length ∧ s.1.length = c.length ∧ (∀ j, 0 ≤ s.1.getD j 0 ∧ s.1.getD j 0 ≤ 100) ∧ (∀ j, i < j → s.1.getD j 0 ≤ 90) ∧ (∀ j < i, s.1.getD j 0 ≤ 9) ∧ valB 10 s.1 = valB 10 c) (fun s => (v.length - s.2 : Int).toNat) _ ?_ ((c, 0) : List Int × Int) (by simp; omega) ⟨0, rfl, by omega, rfl, fun j => by have := hc j; dsimp only; omega, fun j _ => by have := hc j; dsimp only; omega, fun j hj => by omega, rfl⟩
  rintro k ⟨o, _⟩ ⟨i, rfl, h0, h1, h2, h3, h4, h5⟩
  dsimp only at h1 h2 h3 h4 h5 ⊢
  by_cases hi : i < v.length
  · right
    have e1 : ((i : Int) + 1).toNat = i + 1 := by omega
    have b1 := h2 i
    have b2 := h2 (i + 1)
    have b3 := h3 (i + 1) (by omega)
    by_cases h9 : o.getD i 0 > 9
    · generalize hz : o.getD i 0 = z at *
      generalize hz1 : o.getD (i + 1) 0 = z1 at *
      have hdm := Int.emod_add_mul_ediv z 10
      have hset := fun d => valB_set 10 o (i + 1) d (by omega)
      have hset2 := fun d e => valB_set 10 (o.set (i + 1) d) i e (by simp; omega)
      have hgs := fun d j => getD_set (cs := o) (i := i + 1) (j := j) (v := d) (by omega)
      have hgs2 := fun d e j => getD_set (cs := o.set (i + 1) d) (i := i) (j := j) (v := e) (by simp; omega)
      have hgi := fun d => hgs d i
      simp only [show ¬ i = i + 1 by omega, if_false, hz] at hgi
      have hsi : ∀ d, idx (o.set (i + 1) d) (i : Int) = some z := fun d => by rw [idxI (by omega) (by simp; omega), Int.toNat_natCast, hgi]
      refine ⟨((o.set (i + 1) (z1 + z / 10)).set i (z % 10), (i : Int) + 1), ?_, by dsimp only; omega, i + 1, rfl, by omega, by simp [h1], fun j => ?_, fun j hj => ?_, fun j hj => ?_, ?_⟩
      · rw [g_R_NatMul_l4]
        simp (discharger := omega) only [decide_eq_true_eq, if_pos, if_neg, if_true, if_false, bsome, beq_iff, bne_iff, idxI, bidxI, sslI, lslI, k64, ku64, ku32, ku8, i64w, u64w, u32w, u8w, tdivI, tmodI, tu0a, tu1a, tu2a, tu3a, tu4a, tu5a, lta, bindSl, bindSr, outSl, outSr, Int.toNat_natCast, List.length_cons, List.length_nil, List.length_set, Int.toNat_zero, List.replicate_zero, e1, hz, hz1, hsi]
      · dsimp only; rw [hgs2, hgs]
        have := h2 j
        split
        · omega
        · split <;> omega
      · dsimp only; rw [hgs2, hgs, if_neg (by omega), if_neg (by omega)]; exact h3 j (by omega)
      · dsimp only; rw [hgs2]
        split
        · omega
        · rw [hgs, if_neg (by omega)]; exact h4 j (by omega)
      · dsimp only
        rw [hset2, hset, hgi, hz1, h5, Int.pow_succ]
        grind
    · refine ⟨(o, (i : Int) + 1), ?_, by dsimp only; omega, i + 1, rfl, by omega, h1, h2, fun j hj => h3 j (by omega), fun j hj => ?_, h5⟩
      · have e : decide (o.getD i 0 > 9) = false := decide_eq_false h9
        rw [g_R_NatMul_l4]
        simp (discharger := omega) only [decide_eq_true_eq, if_pos, if_neg, if_true, if_false, bsome, beq_iff, bne_iff, idxI, bidxI, sslI, lslI, k64, ku64, ku32, ku8, i64w, u64w, u32w, u8w, tdivI, tmodI, tu0a, tu1a, tu2a, tu3a, tu4a, tu5a, lta, bindSl, bindSr, outSl, outSr, Int.toNat_natCast, List.length_cons, List.length_nil, List.length_set, Int.toNat_zero, List.replicate_zero, e, Bool.false_eq_true]
      · by_cases hj2 : j = i
        · subst hj2; dsimp only; omega
        · exact h4 j (by omega)
  · left
    have : i = v.length := by omega
    subst this
    exact ⟨o, by rw [g_R_NatMul_l4]; simp (discharger := omega) only [decide_eq_true_eq, if_pos, if_neg, if_true, if_false, bsome, beq_iff, bne_iff, idxI, bidxI, sslI, lslI, k64, ku64, ku32, ku8, i64w, u64w, u32w, u8w, tdivI, tmodI, tu0a, tu1a, tu2a, tu3a, tu4a, tu5a, lta, bindSl, bindSr, outSl, outSr, Int.toNat_natCast, List.length_cons, List.length_nil, List.length_set, Int.toNat_zero, List.replicate_zero], h1, fun j => (h2 j).1, h4, h5⟩
theorem kr1 {A B p q X : Int} : A * B + p * (q * B) = (A + p * q) * B := by grind
theorem rmul_loop {a b : ByteArray} (ha : a.size ≤ 500000) (hb : b.size ≤ 500000) (hK : 2000000000 < K) (da : (bytesOf a).all digT = true) (db : (bytesOf b).all digT = true) :
    ∃ r : List Int, g_R_NatMul_l0 K a b K (List.replicate (a.size + b.size + 1) 0) 0 = some r ∧ r.length = a.size + b.size + 1 ∧ DigB 10 r ∧ valB 10 r = numT a * numT b := by
  have dx := digsT_dig da
  have lx := digsT_len a
  refine loopW (fun k (s : List Int × Int) => g_R_NatMul_l0 K a b k s.1 s.2) (fun s => ∃ i : Nat, s.2 = i ∧ i ≤ a.size ∧ s.1.length = a.size + b.size + 1 ∧ DigB 10 s.1 ∧ valB 10 s.1 = valB 10 ((digsT a).take i) * numT b) (fun s => (a.size - s.2 : Int).toNat) _ ?_ ((List.replicate (a.size + b.size + 1) 0, 0) : List Int × Int) (by simp; omega) ⟨0, rfl, by omega, by simp, .zeros (by omega) _, by simp [valB, valB_zeros]⟩
  rintro k ⟨o, _⟩ ⟨i, rfl, h0, h1, h2, h4⟩
  dsimp only at h1 h2 h4 ⊢
  by_cases hi : i < a.size
  · right
    have ex := getD_dig (by omega) dx i
    have tx := valB_take 10 (digsT a) i
    have hdg := digit_ref (K := K) (s := a) (by omega) da i (by omega)
    obtain ⟨c, c1, c2, c3, c4⟩ := rmul_in (K := K) (b := b) (out := o) (u := (digsT a).getD i 0) (i := i) (by omega) (by omega) (by omega) hK ⟨ex.1, by omega⟩ db h2
    obtain ⟨v, hv⟩ : ∃ v, lsl c 0 ((c.length : Int) - 1) = some v := ⟨_, lslI (by omega) (by omega) (by omega)⟩
    have hvl : v.length + 1 = c.length := by
      rw [lslI (by omega) (by omega) (by omega)] at hv
      cases hv
      rw [List.length_take, List.length_drop]
      omega
    obtain ⟨r, r1, r2, r3, r4, r5⟩ := rmul_carry (K := K) (c := c) (v := v) hvl (by omega) hK c3
    have hval : valB 10 r = valB 10 ((digsT a).take (i + 1)) * numT b := by
      rw [r5, c4, h4, tx, kr1 (X := 0)]
    -- no digit is left over
    have htop : r.getD v.length 0 = 0 := by
      have s1 := valB_split 10 r v.length (by omega)
      have dlow : DigB 10 (r.take v.length) := fun d hd => by
        obtain ⟨j, hj, rfl⟩ := List.mem_iff_getElem.1 hd
        rw [List.length_take] at hj
        have q1 := r3 j
        have q2 := r4 j (by omega)
        rw [List.getElem_take]
        rw [List.getD_eq_getElem?_getD, List.getElem?_eq_getElem (by omega)] at q1 q2
        simp at q1 q2
        omega
      have s2 := valB_nonneg (B := 10) (by omega) _ dlow
      have s3 : r.drop v.length = [r.getD v.length 0] := by
        rw [List.drop_eq_getElem_cons (by omega), List.drop_eq_nil_of_le (by omega), List.getD_eq_getElem?_getD, List.getElem?_eq_getElem (by omega)]; rfl
      rw [s3] at s1
      simp only [valB, Int.mul_zero, Int.add_zero] at s1
      have t1 := valB_lt (B := 10) (by omega) _ (dx.take (i + 1))
      have t2 := numT_lt db
      have t3 := numT_nonneg db
      have t4 := valB_nonneg (B := 10) (by omega) _ (dx.take (i + 1))
      have t5 : (10 : Int) ^ ((digsT a).take (i + 1)).length ≤ 10 ^ a.size := ipow_le (by omega) (by rw [List.length_take]; omega)
      have t6 : valB 10 r < 10 ^ v.length := by
        rw [hval, show v.length = a.size + b.size by omega, Int.pow_add]
        have p0 : (0 : Int) < 10 ^ b.size := Int.pow_pos (by omega)
        have m1 := mul_le t4 (show numT b ≤ 10 ^ b.size by omega)
        have m2 := Int.mul_lt_mul_of_pos_right (show valB 10 ((digsT a).take (i + 1)) < 10 ^ a.size by omega) p0
        omega
      refine Int.le_antisymm (Int.not_lt.1 fun hlt => ?_) (r3 _)
      have p0 : (0 : Int) < 10 ^ v.length := Int.pow_pos (by omega)
      have := mul_le (Int.le_of_lt p0) (show 1 ≤ r.getD v.length 0 by omega)
      omega
    have dr : DigB 10 r := fun d hd => by
      obtain ⟨j, hj, rfl⟩ := List.mem_iff_getElem.1 hd
      have q1 := r3 j
      have q2 : r.getD j 0 ≤ 9 := by
        by_cases hjv : j < v.length
        · exact r4 j hjv
        · have : j = v.length := by omega
          subst this; omega
      rw [List.getD_eq_getElem?_getD, List.getElem?_eq_getElem hj] at q1 q2
      simp at q1 q2
      omega
    refine ⟨(r, (i : Int) + 1), ?_, by dsimp only; omega, i + 1, rfl, by omega, by dsimp only; omega, dr, hval⟩
    have hcl : (c.length : Int) - 1 = c.length - 1 := rfl
    rw [g_R_NatMul_l0, hdg, if_pos (decide_eq_true (by omega)), bsome, c1, bsome, tu1a, k64 (by omega) (by omega), hv, bsome, r1, bsome, tu1a, k64 (by omega) (by omega)]
  · left
    have : i = a.size := by omega
    subst this
    rw [List.take_of_length_le (by omega)] at h4
    exact ⟨o, by rw [g_R_NatMul_l0]; simp (discharger := omega) only [decide_eq_true_eq, if_pos, if_neg, if_true, if_false, bsome, beq_iff, bne_iff, idxI, bidxI, sslI, lslI, k64, ku64, ku32, ku8, i64w, u64w, u32w, u8w, tdivI, tmodI, tu0a, tu1a, tu2a, tu3a, tu4a, tu5a, lta, bindSl, bindSr, outSl, outSr, Int.toNat_natCast, List.length_cons, List.length_nil, List.length_set, Int.toNat_zero, List.replicate_zero], h1, h2, h4⟩
theorem mul_ref {a b : ByteArray} (ha : a.size ≤ 500000) (hb : b.size ≤ 500000) (hK : 2000000000 < K) (da : (bytesOf a).all digT = true) (db : (bytesOf b).all digT = true) : ∃ t, g_R_NatMul K a b = some t ∧ CanT t ∧ numT t = numT a * numT b := by
  obtain ⟨r, h1, h2, h3, h4⟩ := rmul_loop ha hb hK da db
  obtain ⟨t, t1, t2, t3⟩ := text_ref (K := K) (l := r) (by omega) (by intro e; rw [e] at h2; simp at h2) (by omega) h3
  refine ⟨t, ?_, t2, by rw [t3, h4]⟩
  unfold g_R_NatMul
  have e1 : ((a.size : Int) + (b.size : Int) + 1) = ((a.size + b.size + 1 : Nat) : Int) := by omega
  simp (discharger := omega) only [decide_eq_true_eq, if_pos, if_neg, if_true, if_false, bsome, beq_iff, bne_iff, idxI, bidxI, sslI, lslI, k64, ku64, ku32, ku8, i64w, u64w, u32w, u8w, tdivI, tmodI, tu0a, tu1a, tu2a, tu3a, tu4a, tu5a, lta, bindSl, bindSr, outSl, outSr, Int.toNat_natCast, List.length_cons, List.length_nil, List.length_set, Int.toNat_zero, List.replicate_zero, e1, h1, t1]
end Go.Am.Tryd
/- Plain law: long division of the program's numbers. -/
namespace Go.Am.Tryd
open Go Go.Am Go.Proofs
set_option linter.unusedSimpArgs false
set_option linter.unusedVariables false
variable {K : Nat}
theorem mid_val (u : List Int) (i n : Nat) (h : i + n ≤ u.length) : valB 1000000000 u = valB 1000000000 (u.take i) + 1000000000 ^ i * (valB 1000000000 ((u.drop i).take n) + 1000000000 ^ n * valB 1000000000 (u.drop (i + n))) := by
  have h1 := valB_split 1000000000 u i (by omega)
  have h2 := valB_split 1000000000 (u.drop i) n (by rw [List.length_drop]; omega)
  rw [h1, h2, List.drop_drop]
theorem getD_ge {l : List Int} {i : Nat} (h : l.length ≤ i) : l.getD i 0 = 0 := by rw [List.getD_eq_getElem?_getD, List.getElem?_eq_none h]; rfl
theorem minus_ok {u v : List Int} {k : Nat} {q : Int} (hk : k + v.length + 1 ≤ u.length) (hl : u.length ≤ 8000000) (hK : 2000000000 < K) (hq : 0 ≤ q ∧ q < 1000000000) (du : DigB 1000000000 u) (dv : DigB 1000000000 v) :
    ∃ (b : Int) (u' : List Int), g_nat_N_minus K u v k q = some (decide (b > 0), u') ∧ (b = 0 ∨ b = 1) ∧ u'.length = u.length ∧ DigB 1000000000 u' ∧ u'.take k = u.take k ∧ u'.drop (k + (v.length + 1)) = u.drop (k + (v.length + 1)) ∧
      valB 1000000000 u' = valB 1000000000 u - 1000000000 ^ k * (q * valB 1000000000 v) + 1000000000 ^ (k + (v.length + 1)) * b := by
  have key : ∃ r : List Int × Int, g_nat_N_minus_l0 K v k q K u 0 0 0 = some r ∧ (r.2 = 0 ∨ r.2 = 1) ∧ r.1.length = u.length ∧ DigB 1000000000 r.1 ∧ r.1.take k = u.take k ∧ r.1.drop (k + (v.length + 1)) = u.drop (k + (v.length + 1)) ∧
      valB 1000000000 r.1 = valB 1000000000 u - 1000000000 ^ k * (q * valB 1000000000 v) + 1000000000 ^ (k + (v.length + 1)) * r.2 := by
    refine loopW (fun m (s : List Int × Int × Int × Int) => g_nat_N_minus_l0 K v k q m s.1 s.2.1 s.2.2.1 s.2.2.2) (fun s => ∃ i : Nat, s.2.2.2 = i ∧ i ≤ v.length + 1 ∧ s.1.length = u.length ∧ DigB 1000000000 s.1 ∧ (s.2.1 = 0 ∨ s.2.1 = 1) ∧ (0 ≤ s.2.2.1 ∧ s.2.2.1 < 1000000000) ∧ (i = v.length + 1 → s.2.2.1 = 0) ∧ s.1.take k = u.take k ∧ s.1.drop (k + (v.length + 1)) = u.drop (k + (v.length + 1)) ∧
      valB 1000000000 s.1 = valB 1000000000 u - 1000000000 ^ k * (q * valB 1000000000 (v.take i)) + 1000000000 ^ (k + i) * (s.2.1 + s.2.2.1)) (fun s => (v.length + 1 - s.2.2.2 : Int).toNat) _ ?_ ((u, 0, 0, 0) : List Int × Int × Int × Int) (by simp; omega) ⟨0, rfl, by omega, rfl, du, .inl rfl, by simp, by simp, rfl, rfl, by simp [valB]⟩
    rintro m ⟨o, b, c, _⟩ ⟨i, rfl, h0, h1, h2, h3, h4, h5, h6, h7, h8⟩
    dsimp only at h1 h2 h3 h4 h5 h6 h7 h8 ⊢
    by_cases hi : i < v.length + 1
    · right
      have ev := getD_dig (by omega) dv i
      have eo := getD_dig (by omega) h2 (k + i)
      have hm := dig_mul hq ev
      have tv := valB_take 1000000000 v i
      have e1 : ((k : Int) + (i : Int)) = ((k + i : Nat) : Int) := by omega
      have e2 : (1000000000 : Int) ^ (k + (i + 1)) = 1000000000 ^ k * 1000000000 ^ i * 1000000000 := by rw [← Nat.add_assoc, Int.pow_succ, Int.pow_add]
      have hset := fun d => valB_set 1000000000 o (k + i) d (by omega)
      have hz : ¬ i < v.length → q * v.getD i 0 = 0 := fun h => by rw [getD_ge (by omega)]; simp
      generalize hw : q * v.getD i 0 = w at hm hz
      generalize ho : o.getD (k + i) 0 = z at eo hset
      have hdm := Int.emod_add_mul_ediv (c + w) 1000000000
      have htk : ∀ d, (o.set (k + i) d).take k = u.take k := fun d => by rw [List.take_set_of_le (by omega), h6]
      have hdr : ∀ d, (o.set (k + i) d).drop (k + (v.length + 1)) = u.drop (k + (v.length + 1)) := fun d => by rw [List.drop_set_of_lt (by omega), h7]
      have hc0 : i + 1 = v.length + 1 → (c + w) / 1000000000 = 0 := fun h => by rw [hz (by omega)]; omega
      have hb2 : 0 ≤ b ∧ b ≤ 1 := by rcases h3 with rfl | rfl <;> omega
      by_cases hn : z - (c + w) % 1000000000 - b < 0
      · refine ⟨(o.set (k + i) (z - (c + w) % 1000000000 - b + 1000000000), 1, (c + w) / 1000000000, (i : Int) + 1), ?_, by dsimp only; omega, i + 1, rfl, by omega, by simp [h1], h2.set _ (by omega), .inr rfl, by dsimp only; omega, hc0, htk _, hdr _, ?_⟩
        · rw [g_nat_N_minus_l0]
          by_cases h : i < v.length
          · simp (discharger := omega) only [decide_eq_true_eq, if_pos, if_neg, if_true, if_false, bsome, beq_iff, bne_iff, idxI, bidxI, sslI, lslI, k64, ku64, ku32, ku8, i64w, u64w, u32w, u8w, tdivI, tmodI, tu0a, tu1a, tu2a, tu3a, tu4a, tu5a, lta, bindSl, bindSr, outSl, outSr, Int.toNat_natCast, List.length_cons, List.length_nil, List.length_set, Int.toNat_zero, List.replicate_zero, e1, hw, ho]
          · have e := hz h
            subst e
            simp only [Int.add_zero] at hn ⊢
            simp (discharger := omega) only [decide_eq_true_eq, if_pos, if_neg, if_true, if_false, bsome, beq_iff, bne_iff, idxI, bidxI, sslI, lslI, k64, ku64, ku32, ku8, i64w, u64w, u32w, u8w, tdivI, tmodI, tu0a, tu1a, tu2a, tu3a, tu4a, tu5a, lta, bindSl, bindSr, outSl, outSr, Int.toNat_natCast, List.length_cons, List.length_nil, List.length_set, Int.toNat_zero, List.replicate_zero, e1, ho]
        · dsimp only
          rw [hset, tv, e2]
          rw [Int.pow_add] at h8 ⊢
          subst hw
          generalize (c + q * v.getD i 0) / 1000000000 = Q at *
          generalize (c + q * v.getD i 0) % 1000000000 = R at *
          grind
      · refine ⟨(o.set (k + i) (z - (c + w) % 1000000000 - b), 0, (c + w) / 1000000000, (i : Int) + 1), ?_, by dsimp only; omega, i + 1, rfl, by omega, by simp [h1], h2.set _ (by omega), .inl rfl, by dsimp only; omega, hc0, htk _, hdr _, ?_⟩
        · rw [g_nat_N_minus_l0]
          by_cases h : i < v.length
          · simp (discharger := omega) only [decide_eq_true_eq, if_pos, if_neg, if_true, if_false, bsome, beq_iff, bne_iff, idxI, bidxI, sslI, lslI, k64, ku64, ku32, ku8, i64w, u64w, u32w, u8w, tdivI, tmodI, tu0a, tu1a, tu2a, tu3a, tu4a, tu5a, lta, bindSl, bindSr, outSl, outSr, Int.toNat_natCast, List.length_cons, List.length_nil, List.length_set, Int.toNat_zero, List.replicate_zero, e1, hw, ho]
          · have e := hz h
            subst e
            simp only [Int.add_zero] at hn ⊢
            simp (discharger := omega) only [decide_eq_true_eq, if_pos, if_neg, if_true, if_false, bsome, beq_iff, bne_iff, idxI, bidxI, sslI, lslI, k64, ku64, ku32, ku8, i64w, u64w, u32w, u8w, tdivI, tmodI, tu0a, tu1a, tu2a, tu3a, tu4a, tu5a, lta, bindSl, bindSr, outSl, outSr, Int.toNat_natCast, List.length_cons, List.length_nil, List.length_set, Int.toNat_zero, List.replicate_zero, e1, ho]
        · dsimp only
          rw [hset, tv, e2]
          rw [Int.pow_add] at h8 ⊢
          subst hw
          generalize (c + q * v.getD i 0) / 1000000000 = Q at *
          generalize (c + q * v.getD i 0) % 1000000000 = R at *
          grind
    · left
      have : i = v.length + 1 := by omega
      subst this
      have hc := h5 rfl
      subst hc
      rw [List.take_of_length_le (by omega), Int.add_zero] at h8
      exact ⟨(o, b), by rw [g_nat_N_minus_l0]; simp (discharger := omega) only [decide_eq_true_eq, if_pos, if_neg, if_true, if_false, bsome, beq_iff, bne_iff, idxI, bidxI, sslI, lslI, k64, ku64, ku32, ku8, i64w, u64w, u32w, u8w, tdivI, tmodI, tu0a, tu1a, tu2a, tu3a, tu4a, tu5a, lta, bindSl, bindSr, outSl, outSr, Int.toNat_natCast, List.length_cons, List.length_nil, List.length_set, Int.toNat_zero, List.replicate_zero], h3, h1, h2, h6, h7, h8⟩
  obtain ⟨⟨u', b⟩, h1, h2⟩ := key
  exact ⟨b, u', by unfold g_nat_N_minus; rw [h1]; rfl, h2⟩
theorem plus_ok {u v : List Int} {k : Nat} (hk : k + v.length + 1 ≤ u.length) (hl : u.length ≤ 8000000) (hK : 2000000000 < K) (du : DigB 1000000000 u) (dv : DigB 1000000000 v) :
    ∃ (u' : List Int) (b : Int), g_nat_N_plus K u v k = some u' ∧ (b = 0 ∨ b = 1) ∧ u'.length = u.length ∧ DigB 1000000000 u' ∧ u'.take k = u.take k ∧ u'.drop (k + (v.length + 1)) = u.drop (k + (v.length + 1)) ∧
      valB 1000000000 u' + 1000000000 ^ (k + (v.length + 1)) * b = valB 1000000000 u + 1000000000 ^ k * valB 1000000000 v := by
  have key : ∃ r : List Int, g_nat_N_plus_l0 K v k K u 0 0 = some r ∧ ∃ b : Int, (b = 0 ∨ b = 1) ∧ r.length = u.length ∧ DigB 1000000000 r ∧ r.take k = u.take k ∧ r.drop (k + (v.length + 1)) = u.drop (k + (v.length + 1)) ∧
      valB 1000000000 r + 1000000000 ^ (k + (v.length + 1)) * b = valB 1000000000 u + 1000000000 ^ k * valB 1000000000 v := by
    refine loopW (fun m (s : List Int × Int × Int) => g_nat_N_plus_l0 K v k m s.1 s.2.1 s.2.2) (fun s => ∃ i : Nat, s.2.2 = i ∧ i ≤ v.length + 1 ∧ s.1.length = u.length ∧ DigB 1000000000 s.1 ∧ (s.2.1 = 0 ∨ s.2.1 = 1) ∧ s.1.take k = u.take k ∧ s.1.drop (k + (v.length + 1)) = u.drop (k + (v.length + 1)) ∧
      valB 1000000000 s.1 + 1000000000 ^ (k + i) * s.2.1 = valB 1000000000 u + 1000000000 ^ k * valB 1000000000 (v.take i)) (fun s => (v.length + 1 - s.2.2 : Int).toNat) _ ?_ ((u, 0, 0) : List Int × Int × Int) (by simp; omega) ⟨0, rfl, by omega, rfl, du, .inl rfl, rfl, rfl, by simp [valB]⟩
    rintro m ⟨o, b, _⟩ ⟨i, rfl, h0, h1, h2, h3, h6, h7, h8⟩
    dsimp only at h1 h2 h3 h6 h7 h8 ⊢
    by_cases hi : i < v.length + 1
    · right
      have ev := getD_dig (by omega) dv i
      have eo := getD_dig (by omega) h2 (k + i)
      have tv := valB_take 1000000000 v i
      have e1 : ((k : Int) + (i : Int)) = ((k + i : Nat) : Int) := by omega
      have e2 : (1000000000 : Int) ^ (k + (i + 1)) = 1000000000 ^ k * 1000000000 ^ i * 1000000000 := by rw [← Nat.add_assoc, Int.pow_succ, Int.pow_add]
      have hset := fun d => valB_set 1000000000 o (k + i) d (by omega)
      have hz : ¬ i < v.length → v.getD i 0 = 0 := fun h => getD_ge (by omega)
      generalize hw : v.getD i 0 = w at ev hz tv
      generalize ho : o.getD (k + i) 0 = z at eo hset
      have hdm := Int.emod_add_mul_ediv (z + b + w) 1000000000
      have htk : ∀ d, (o.set (k + i) d).take k = u.take k := fun d => by rw [List.take_set_of_le (by omega), h6]
      have hdr : ∀ d, (o.set (k + i) d).drop (k + (v.length + 1)) = u.drop (k + (v.length + 1)) := fun d => by rw [List.drop_set_of_lt (by omega), h7]
      have hb2 : 0 ≤ b ∧ b ≤ 1 := by rcases h3 with rfl | rfl <;> omega
      refine ⟨(o.set (k + i) ((z + b + w) % 1000000000), (z + b + w) / 1000000000, (i : Int) + 1), ?_, by dsimp only; omega, i + 1, rfl, by omega, by simp [h1], h2.set _ (by omega), by dsimp only; omega, htk _, hdr _, ?_⟩
      · rw [g_nat_N_plus_l0]
        by_cases h : i < v.length
        · simp (discharger := omega) only [decide_eq_true_eq, if_pos, if_neg, if_true, if_false, bsome, beq_iff, bne_iff, idxI, bidxI, sslI, lslI, k64, ku64, ku32, ku8, i64w, u64w, u32w, u8w, tdivI, tmodI, tu0a, tu1a, tu2a, tu3a, tu4a, tu5a, lta, bindSl, bindSr, outSl, outSr, Int.toNat_natCast, List.length_cons, List.length_nil, List.length_set, Int.toNat_zero, List.replicate_zero, e1, hw, ho]
        · have e := hz h
          subst e
          simp only [Int.add_zero] at hdm ⊢
          simp (discharger := omega) only [decide_eq_true_eq, if_pos, if_neg, if_true, if_false, bsome, beq_iff, bne_iff, idxI, bidxI, sslI, lslI, k64, ku64, ku32, ku8, i64w, u64w, u32w, u8w, tdivI, tmodI, tu0a, tu1a, tu2a, tu3a, tu4a, tu5a, lta, bindSl, bindSr, outSl, outSr, Int.toNat_natCast, List.length_cons, List.length_nil, List.length_set, Int.toNat_zero, List.replicate_zero, e1, ho]
      · dsimp only
        rw [hset, tv, e2]
        rw [Int.pow_add] at h8
        generalize (z + b + w) / 1000000000 = Q at *
        generalize (z + b + w) % 1000000000 = R at *
        grind
    · left
      have : i = v.length + 1 := by omega
      subst this
      rw [List.take_of_length_le (by omega)] at h8
      exact ⟨o, by rw [g_nat_N_plus_l0]; simp (discharger := omega) only [decide_eq_true_eq, if_pos, if_neg, if_true, if_false, bsome, beq_iff, bne_iff, idxI, bidxI, sslI, lslI, k64, ku64, ku32, ku8, i64w, u64w, u32w, u8w, tdivI, tmodI, tu0a, tu1a, tu2a, tu3a, tu4a, tu5a, lta, bindSl, bindSr, outSl, outSr, Int.toNat_natCast, List.length_cons, List.length_nil, List.length_set, Int.toNat_zero, List.replicate_zero], b, h3, h1, h2, h6, h7, h8⟩
  obtain ⟨u', h1, b, h2⟩ := key
  exact ⟨u', b, by unfold g_nat_N_plus; rw [h1]; rfl, h2⟩
theorem guess_ok {u v : List Int} {k : Nat} {P vl top ul q g r : Int} (hn : 2 ≤ v.length) (hk : k + v.length + 1 ≤ u.length) (hl : u.length ≤ 8000000) (hK : 2000000000 < K)
    (h : Kn 1000000000 P (v.getD (v.length - 1) 0) (v.getD (v.length - 2) 0) vl top (u.getD (k + v.length - 2) 0) ul q) (hv : v.getD (v.length - 1) 0 < 1000000000) (ht : top < 1000000000 * v.getD (v.length - 1) 0 + 1000000000) (hr : top = g * v.getD (v.length - 1) 0 + r) (hg : q ≤ g) (hg2 : g < 2000000000) (hr0 : 0 ≤ r ∧ r < 1000000000) :
    ∃ g', g_nat_N_Div_l4 K v u k K g r = some g' ∧ q ≤ g' ∧ g' ≤ q + 1 ∧ g' < 1000000000 := by
  generalize hv1 : v.getD (v.length - 1) 0 = v1 at *
  generalize hv2 : v.getD (v.length - 2) 0 = v2 at *
  generalize hu3 : u.getD (k + v.length - 2) 0 = u3 at *
  have a1 := h.v1p
  have a2 := h.v2p
  have a3 := h.v2b
  have a4 := h.u3p
  have a5 := h.u3b
  have a6 := h.q0
  have a7 := h.qB
  refine loopW (fun m (s : Int × Int) => g_nat_N_Div_l4 K v u k m s.1 s.2) (fun s => top = s.1 * v1 + s.2 ∧ q ≤ s.1 ∧ s.1 < 2000000000 ∧ 0 ≤ s.2 ∧ s.2 < 1000000000) (fun s => (1000000000 - s.2).toNat) _ ?_ ((g, r) : Int × Int) ?_ ⟨hr, hg, hg2, hr0.1, hr0.2⟩
  · rintro m ⟨g, r⟩ ⟨b1, b2, b3, b4, b5⟩
    dsimp only at b1 b2 b3 b4 b5 ⊢
    have f1 : idx v (kwrap .i64 ((v.length : Int) - 1)) = some v1 := by
      rw [k64 (by omega) (by omega), idxI (by omega) (by omega), ← hv1]; congr 2; omega
    have f2 : idx v (kwrap .i64 ((v.length : Int) - 2)) = some v2 := by
      rw [k64 (by omega) (by omega), idxI (by omega) (by omega), ← hv2]; congr 2; omega
    have f3 : idx u (kwrap .i64 (kwrap .i64 ((k : Int) + (v.length : Int)) - 2)) = some u3 := by
      rw [k64 (a := (k : Int) + (v.length : Int)) (by omega) (by omega), k64 (by omega) (by omega), idxI (by omega) (by omega), ← hu3]; congr 2; omega
    have m1 : 0 ≤ g * v2 := mul_nn (by omega) a2
    have m2 := mul_le (show 0 ≤ g by omega) (show v2 ≤ 999999999 by omega)
    rw [g_nat_N_Div_l4, f1, f2]
    generalize hw : g * v2 = w at m1 m2
    by_cases c : g ≥ 1000000000 ∨ w > r * 1000000000 + u3
    · have hqg : q < g := by
        rcases c with c | c
        · omega
        · exact h.down b1 (by omega) (by omega)
      have hc : (if (decide (g ≥ 1000000000)) = true then some true else ((some v2).bind fun x235 => (lt (kwrap .i64 ((kwrap .i64 ((k : Int) + (v.length : Int))) - 2)) fun x239 => ((idx u x239).bind fun x242 => (lt (kwrap .u64 ((kwrap .u64 (r * 1000000000)) + (IntKind.wrap .u64 x242))) fun x246 => (lt (decide ((kwrap .u64 (g * (IntKind.wrap .u64 x235))) > x246)) fun x249 => some x249)))))) = some true := by
        by_cases c1 : g ≥ 1000000000
        · rw [decide_eq_true c1]; rfl
        · rw [decide_eq_false c1]
          simp only [bsome, lta, Bool.false_eq_true, if_false, f3]
          rw [u64w (a := v2) (by omega) (by omega), hw, u64w (a := u3) (by omega) (by omega), ku64 (a := w) (by omega) (by omega), ku64 (a := r * 1000000000) (by omega) (by omega), ku64 (a := r * 1000000000 + u3) (by omega) (by omega), decide_eq_true (by omega)]
      rw [hc]
      by_cases c2 : r + v1 ≥ 1000000000
      · left
        have hgB : g ≤ 1000000000 := by
          refine Int.not_lt.1 fun hlt => ?_
          have := mul_le (show 0 ≤ v1 by omega) (show 1000000001 ≤ g by omega)
          rw [Int.mul_comm v1 g] at this
          omega
        have hx := h.exitB (g := g - 1) (r := r + v1) (by rw [Int.sub_mul]; omega) (by omega) (by omega) c2
        refine ⟨g - 1, ?_, by omega, by omega, by omega⟩
        simp (discharger := omega) only [decide_eq_true_eq, if_pos, if_neg, if_true, if_false, bsome, beq_iff, bne_iff, idxI, bidxI, sslI, lslI, k64, ku64, ku32, ku8, i64w, u64w, u32w, u8w, tdivI, tmodI, tu0a, tu1a, tu2a, tu3a, tu4a, tu5a, lta, bindSl, bindSr, outSl, outSr, Int.toNat_natCast, List.length_cons, List.length_nil, List.length_set, Int.toNat_zero, List.replicate_zero]
      · right
        refine ⟨(g - 1, r + v1), ?_, by dsimp only; omega, by dsimp only; rw [Int.sub_mul]; omega, by dsimp only; omega, by dsimp only; omega, by dsimp only; omega, by dsimp only; omega⟩
        have e : decide (r + v1 ≥ 1000000000) = false := decide_eq_false c2
        simp (discharger := omega) only [decide_eq_true_eq, if_pos, if_neg, if_true, if_false, bsome, beq_iff, bne_iff, idxI, bidxI, sslI, lslI, k64, ku64, ku32, ku8, i64w, u64w, u32w, u8w, tdivI, tmodI, tu0a, tu1a, tu2a, tu3a, tu4a, tu5a, lta, bindSl, bindSr, outSl, outSr, Int.toNat_natCast, List.length_cons, List.length_nil, List.length_set, Int.toNat_zero, List.replicate_zero, e, Bool.false_eq_true]
    · left
      have c1 : ¬ g ≥ 1000000000 := fun x => c (.inl x)
      have c3 : ¬ w > r * 1000000000 + u3 := fun x => c (.inr x)
      have hx := h.exitA b1 (by omega) (by omega) (by omega)
      refine ⟨g, ?_, b2, hx, by omega⟩
      rw [decide_eq_false c1]
      simp only [bsome, lta, Bool.false_eq_true, if_false, f3]
      rw [u64w (a := v2) (by omega) (by omega), hw, u64w (a := u3) (by omega) (by omega), ku64 (a := w) (by omega) (by omega), ku64 (a := r * 1000000000) (by omega) (by omega), ku64 (a := r * 1000000000 + u3) (by omega) (by omega), decide_eq_false c3]
      simp only [bsome, tu1a, Bool.false_eq_true, if_false]
  · dsimp only; omega
end Go.Am.Tryd
/- Plain law: quotient and remainder, greatest common divisor of the program's numbers. -/
namespace Go.Am.Tryd
open Go Go.Am Go.Proofs
set_option linter.unusedSimpArgs false
set_option linter.unusedVariables false
variable {K : Nat}
theorem getD_drop' (u : List Int) (i j : Nat) : (u.drop i).getD j 0 = u.getD (i + j) 0 := by
  rw [List.getD_eq_getElem?_getD, List.getElem?_drop, List.getD_eq_getElem?_getD]
section
variable {p X Y V M HI LO U g q b c rr M1 M2 U1 U2 P v1 v2 vl t1 t2 t3 ul top : Int}
theorem kd1 : vl + P * v2 + P * 1000000000 * v1 = P * (1000000000 * v1 + v2) + vl := by grind
theorem kd2 : ul + P * t3 + P * 1000000000 * t2 + P * 1000000000 * 1000000000 * t1 = P * (1000000000 * (t1 * 1000000000 + t2) + t3) + ul := by grind
theorem kd3 (hu : U < p * 1000000000 * V) (hm : U = LO + p * (M + Y * 1000000000 * HI)) (h0 : 0 ≤ LO) (p0 : 0 < p) (Y0 : 0 < Y) (hV : V < Y) (hM : 0 ≤ M) (hH : 0 ≤ HI) : HI = 0 := by
  refine Int.le_antisymm (Int.not_lt.1 fun hlt => ?_) hH
  have a1 := mul_le (Int.le_of_lt Y0) (show 1 ≤ HI by omega)
  have a2 := mul_le (Int.le_of_lt p0) (show V + 1 ≤ Y by omega)
  have a3 := mul_le (Int.le_of_lt p0) (show Y * 1000000000 ≤ M + Y * 1000000000 * HI by grind)
  grind
theorem kd4 (hu : U < p * 1000000000 * V) (hm : U = LO + p * (M + X * 0)) (h0 : 0 ≤ LO) (p0 : 0 < p) : M < 1000000000 * V := by
  refine Int.not_le.1 fun hle => ?_
  have a1 := mul_le (Int.le_of_lt p0) hle
  grind
theorem kd5 (h : rr + V * q = M) (h0 : 0 ≤ rr) : q * V ≤ M := by grind
theorem kd5' (h : rr + V * q = M) (h0 : rr < V) : M < (q + 1) * V := by grind
theorem kd6 (hM : M = P * (1000000000 * top + t3) + ul) (hV : V = P * (1000000000 * v1 + v2) + vl) (h : M < 1000000000 * V) (P0 : 0 < P) (b2 : v2 < 1000000000) (b3 : 0 ≤ t3) (u0 : 0 ≤ ul) (vb : vl < P) : top < 1000000000 * v1 + 1000000000 := by
  refine Int.not_le.1 fun hle => ?_
  have a1 := mul_le (Int.le_of_lt P0) (mul_le (show (0:Int) ≤ 1000000000 by omega) hle)
  have a2 := mul_le (Int.le_of_lt P0) (show v2 ≤ 999999999 by omega)
  have a3 := mul_nn (Int.le_of_lt P0) b3
  subst hM hV
  grind
theorem kd7 (p0 : 0 < p) (h1 : U1 = LO + p * (M1 + X * 0)) (h2 : U1 = U - p * (g * V) + p * X * b) (h3 : U = LO + p * (M + X * 0)) : M1 = M - g * V + X * b := by
  have : p * M1 = p * (M - g * V + X * b) := by grind
  exact Int.eq_of_mul_eq_mul_left (by omega) this
theorem kd8 (h : rr + V * q = M) (h1 : rr < V) (hV : 0 < V) (hm : M1 = M - g * V + X * 0) (h0 : 0 ≤ M1) (hq : q ≤ g) : g = q := by
  refine Int.le_antisymm (Int.not_lt.1 fun hlt => ?_) hq
  have a1 := mul_le (Int.le_of_lt hV) (show q + 1 ≤ g by omega)
  grind
theorem kd9 (h : rr + V * q = M) (h0 : 0 ≤ rr) (hm : M1 = M - g * V + X * 1) (h1 : M1 < X) (hq : q ≤ g) (hq1 : g ≤ q + 1) : g = q + 1 := by
  refine Int.le_antisymm hq1 (Int.not_lt.1 fun hlt => ?_)
  have : g = q := by omega
  subst this
  grind
theorem kd10 (p0 : 0 < p) (h1 : U2 = LO + p * (M2 + X * 0)) (h2 : U2 + p * X * c = U1 + p * V) (h3 : U1 = LO + p * (M1 + X * 0)) (h4 : M1 = M - (q + 1) * V + X * 1) : M2 = M - q * V + X * (1 - c) := by
  have : p * M2 = p * (M - q * V + X * (1 - c)) := by grind
  exact Int.eq_of_mul_eq_mul_left (by omega) this
theorem kd11 (h : rr + V * q = M) (h0 : 0 ≤ rr) (hm : M2 = M - q * V + X * (1 - c)) (h1 : M2 < X) (hc : c = 0 ∨ c = 1) : c = 1 := by
  rcases hc with rfl | rfl
  · grind
  · rfl
theorem kd12 (h1 : U1 = LO + p * (M1 + X * 0)) (hm : M1 = M - q * V) (h3 : U = LO + p * (M + X * 0)) : U1 + p * (q * V) = U := by grind
theorem kd13 (p0 : 0 < p) (h1 : U1 = LO + p * (M1 + X * 0)) (hm : M1 = M - q * V) (h : rr + V * q = M) (hr : rr < V) (hl : LO < p) : U1 < p * V := by
  have a1 := mul_le (Int.le_of_lt p0) (show M1 + 1 ≤ V by grind)
  grind
end
/-- One digit of the quotient. -/
theorem digit_step {u v : List Int} {i : Nat} (hn : 2 ≤ v.length) (hk : i + v.length + 1 ≤ u.length) (hl : u.length ≤ 8000000) (hK : 2000000000 < K) (du : DigB 1000000000 u) (cv : CanB 1000000000 v) (hu : valB 1000000000 u < 1000000000 ^ (i + 1) * valB 1000000000 v) :
    ∃ g b u1 u2 q, g_nat_N_Div_l4 K v u i K ((u.getD (i + v.length) 0 * 1000000000 + u.getD (i + v.length - 1) 0) / v.getD (v.length - 1) 0) ((u.getD (i + v.length) 0 * 1000000000 + u.getD (i + v.length - 1) 0) % v.getD (v.length - 1) 0) = some g ∧ 0 ≤ g ∧ g < 1000000000 ∧
      g_nat_N_minus K u v i g = some (b, u1) ∧ (b = true → g_nat_N_plus K u1 v i = some u2 ∧ q = g - 1) ∧ (b = false → u2 = u1 ∧ q = g) ∧ 0 ≤ q ∧ q < 1000000000 ∧ u2.length = u.length ∧ DigB 1000000000 u2 ∧
      valB 1000000000 u2 + 1000000000 ^ i * (q * valB 1000000000 v) = valB 1000000000 u ∧ valB 1000000000 u2 < 1000000000 ^ i * valB 1000000000 v ∧ 1 ≤ v.getD (v.length - 1) 0 ∧ v.getD (v.length - 1) 0 < 1000000000 := by
  obtain ⟨n, hnv⟩ : ∃ n, v.length = n + 2 := ⟨v.length - 2, by omega⟩
  have dv := cv.1
  have ev1 := getD_dig (by omega) dv (n + 1)
  have ev2 := getD_dig (by omega) dv n
  have et1 := getD_dig (by omega) du (i + n + 2)
  have et2 := getD_dig (by omega) du (i + n + 1)
  have et3 := getD_dig (by omega) du (i + n)
  -- the divisor's leading digits
  have hv1 : 1 ≤ v.getD (n + 1) 0 := by
    have : v.getD (n + 1) 0 ≠ 0 := fun e => cv.2 (by
      rw [List.getLast?_eq_getElem?, hnv]
      have hi : n + 2 - 1 < v.length := by omega
      rw [List.getD_eq_getElem?_getD, List.getElem?_eq_getElem (by omega)] at e
      rw [List.getElem?_eq_getElem hi]
      simp at e ⊢
      exact e)
    omega
  have hV : valB 1000000000 v = 1000000000 ^ n * (1000000000 * v.getD (n + 1) 0 + v.getD n 0) + valB 1000000000 (v.take n) := by
    have h1 := valB_take 1000000000 v n
    have h2 := valB_take 1000000000 v (n + 1)
    rw [List.take_of_length_le (by omega)] at h2
    rw [h2, h1, Int.pow_succ, kd1]
  have hVn : valB 1000000000 v < 1000000000 ^ (n + 2) := by rw [← hnv]; exact valB_lt (by omega) v dv
  -- the middle of what is divided
  have hmid := mid_val u i (n + 3) (by omega)
  have hM : valB 1000000000 ((u.drop i).take (n + 3)) = 1000000000 ^ n * (1000000000 * (u.getD (i + n + 2) 0 * 1000000000 + u.getD (i + n + 1) 0) + u.getD (i + n) 0) + valB 1000000000 ((u.drop i).take n) := by
    have h1 := valB_take 1000000000 (u.drop i) n
    have h2 := valB_take 1000000000 (u.drop i) (n + 1)
    have h3 := valB_take 1000000000 (u.drop i) (n + 2)
    rw [getD_drop'] at h1 h2 h3
    rw [h3, h2, h1, Int.pow_succ 1000000000 (n + 1), Int.pow_succ 1000000000 n, ← Nat.add_assoc, ← Nat.add_assoc, kd2]
  have dlo := du.take i
  have lo0 := valB_nonneg (B := 1000000000) (by omega) _ dlo
  have lo1 := valB_lt (B := 1000000000) (by omega) _ dlo
  rw [List.length_take, Nat.min_eq_left (by omega)] at lo1
  have dmi := (du.drop i).take (n + 3)
  have mi0 := valB_nonneg (B := 1000000000) (by omega) _ dmi
  have dhi := du.drop (i + (n + 3))
  have hi0 := valB_nonneg (B := 1000000000) (by omega) _ dhi
  have p0 : 0 < (1000000000 : Int) ^ i := Int.pow_pos (by omega)
  have pn0 : 0 < (1000000000 : Int) ^ n := Int.pow_pos (by omega)
  have pn3 : 0 < (1000000000 : Int) ^ (n + 3) := Int.pow_pos (by omega)
  have ep1 : (1000000000 : Int) ^ (i + 1) = 1000000000 ^ i * 1000000000 := Int.pow_succ _ _
  have ep3 : (1000000000 : Int) ^ (n + 3) = 1000000000 ^ (n + 2) * 1000000000 := Int.pow_succ _ _
  have dul := (du.drop i).take n
  have ul0 := valB_nonneg (B := 1000000000) (by omega) _ dul
  have ul1 := valB_lt (B := 1000000000) (by omega) _ dul
  rw [List.length_take, List.length_drop, Nat.min_eq_left (by omega)] at ul1
  have dvl := dv.take n
  have vl0 := valB_nonneg (B := 1000000000) (by omega) _ dvl
  have vl1 := valB_lt (B := 1000000000) (by omega) _ dvl
  rw [List.length_take, Nat.min_eq_left (by omega)] at vl1
  have hmin := fun (g : Int) (hg : 0 ≤ g ∧ g < 1000000000) => minus_ok (K := K) (u := u) (v := v) (k := i) (q := g) hk hl hK hg du dv
  have hplu := fun (u1 : List Int) (h1 : u1.length = u.length) (d1 : DigB 1000000000 u1) => plus_ok (K := K) (u := u1) (v := v) (k := i) (by omega) (by omega) hK d1 dv
  rw [show i + v.length = i + n + 2 by omega, show i + n + 2 - 1 = i + n + 1 by omega, show v.length - 1 = n + 1 by omega]
  generalize hVV : valB 1000000000 v = V at *
  generalize hMM : valB 1000000000 ((u.drop i).take (n + 3)) = M at *
  generalize hLL : valB 1000000000 (u.take i) = LO at *
  generalize hHH : valB 1000000000 (u.drop (i + (n + 3))) = HI at *
  have hV0 : 0 < V := by
    have := mul_le (Int.le_of_lt pn0) (show 1 ≤ 1000000000 * v.getD (n + 1) 0 + v.getD n 0 by omega)
    omega
  have hHI : HI = 0 := by
    rw [ep3] at hmid
    rw [ep1] at hu
    exact kd3 hu hmid lo0 p0 (Int.pow_pos (by omega)) hVn mi0 hi0
  rw [hHI] at hmid
  have hMV : M < 1000000000 * V := by
    rw [ep1] at hu
    exact kd4 hu hmid lo0 p0
  -- the true digit
  have q0 : 0 ≤ M / V := Int.ediv_nonneg mi0 (by omega)
  have qB : M / V < 1000000000 := Int.ediv_lt_of_lt_mul hV0 hMV
  have hdm := Int.emod_add_mul_ediv M V
  have r0 := Int.emod_nonneg M (show V ≠ 0 by omega)
  have r1 := Int.emod_lt_of_pos M hV0
  generalize hq : M / V = q at *
  generalize M % V = rr at *
  have hkn : Kn 1000000000 (1000000000 ^ n) (v.getD (n + 1) 0) (v.getD n 0) (valB 1000000000 (v.take n)) (u.getD (i + n + 2) 0 * 1000000000 + u.getD (i + n + 1) 0) (u.getD (i + n) 0) (valB 1000000000 ((u.drop i).take n)) q := by
    refine ⟨by omega, pn0, hv1, ev2.1, ev2.2, vl0, vl1, by omega, et3.1, et3.2, ul0, ul1, q0, qB, ?_, ?_⟩
    · rw [← hM, ← hV]; exact kd5 hdm r0
    · rw [← hM, ← hV]; exact kd5' hdm r1
  have ht : u.getD (i + n + 2) 0 * 1000000000 + u.getD (i + n + 1) 0 < 1000000000 * v.getD (n + 1) 0 + 1000000000 := kd6 hM hV hMV pn0 ev2.2 et3.1 ul0 vl1
  generalize htop : u.getD (i + n + 2) 0 * 1000000000 + u.getD (i + n + 1) 0 = top at *
  have htd := Int.emod_add_mul_ediv top (v.getD (n + 1) 0)
  have hfirst := hkn.first
  have g2 : top / v.getD (n + 1) 0 < 2000000000 := Int.ediv_lt_of_lt_mul (by omega) (by omega)
  have rt0 := Int.emod_nonneg top (show v.getD (n + 1) 0 ≠ 0 by omega)
  have rt1 := Int.emod_lt_of_pos top (show 0 < v.getD (n + 1) 0 by omega)
  obtain ⟨g, w1, w2, w3, w4⟩ := guess_ok (K := K) (u := u) (v := v) (k := i) (P := 1000000000 ^ n) (vl := valB 1000000000 (v.take n)) (top := top) (ul := valB 1000000000 ((u.drop i).take n)) (q := q) (g := top / v.getD (n + 1) 0) (r := top % v.getD (n + 1) 0) hn hk hl hK
    (by rw [hnv, show n + 2 - 1 = n + 1 by omega, show n + 2 - 2 = n by omega, show i + (n + 2) - 2 = i + n by omega]; exact hkn) (by rw [hnv, show n + 2 - 1 = n + 1 by omega]; omega) (by rw [hnv, show n + 2 - 1 = n + 1 by omega]; omega) (by rw [hnv, show n + 2 - 1 = n + 1 by omega, Int.mul_comm]; omega) hfirst g2 (by omega)
  obtain ⟨b, u1, m1, m2, m3, m4, m5, m6, m7⟩ := hmin g (by omega)
  have hmid1 := mid_val u1 i (n + 3) (by omega)
  have dm1 := (m4.drop i).take (n + 3)
  have m10 := valB_nonneg (B := 1000000000) (by omega) _ dm1
  have m11 := valB_lt (B := 1000000000) (by omega) _ dm1
  rw [List.length_take, List.length_drop, Nat.min_eq_left (by omega)] at m11
  rw [show i + (n + 3) = i + (v.length + 1) by omega, m6, show i + (v.length + 1) = i + (n + 3) by omega, hHH, hHI, m5, hLL] at hmid1
  rw [show i + (v.length + 1) = i + (n + 3) by omega, Int.pow_add] at m7
  generalize hM1 : valB 1000000000 ((u1.drop i).take (n + 3)) = M1 at *
  have hM1e : M1 = M - g * V + 1000000000 ^ (n + 3) * b := kd7 p0 hmid1 m7 hmid
  rcases m2 with rfl | rfl
  · -- no borrow: the guess was right
    have hgq : g = q := kd8 hdm r1 hV0 hM1e m10 w2
    subst hgq
    have hM1f : M1 = M - g * V := by rw [hM1e]; omega
    exact ⟨g, false, u1, u1, g, w1, q0, w4, by simpa using m1, by simp, by simp, q0, qB, m3, m4, kd12 hmid1 hM1f hmid, kd13 p0 hmid1 hM1f hdm r1 lo1, hv1, ev1.2⟩
  · have hgq : g = q + 1 := kd9 hdm r0 hM1e m11 w2 w3
    subst hgq
    obtain ⟨u2, c, s1, s2, s3, s4, s5, s6, s7⟩ := hplu u1 m3 m4
    have hmid2 := mid_val u2 i (n + 3) (by omega)
    have dm2 := (s4.drop i).take (n + 3)
    have m20 := valB_nonneg (B := 1000000000) (by omega) _ dm2
    have m21 := valB_lt (B := 1000000000) (by omega) _ dm2
    rw [List.length_take, List.length_drop, Nat.min_eq_left (by omega)] at m21
    rw [show i + (n + 3) = i + (v.length + 1) by omega, s6, m6, show i + (v.length + 1) = i + (n + 3) by omega, hHH, hHI, s5, m5, hLL] at hmid2
    rw [show i + (v.length + 1) = i + (n + 3) by omega, Int.pow_add] at s7
    generalize hM2 : valB 1000000000 ((u2.drop i).take (n + 3)) = M2 at *
    have hM2e : M2 = M - q * V + 1000000000 ^ (n + 3) * (1 - c) := kd10 p0 hmid2 s7 hmid1 hM1e
    have hc : c = 1 := kd11 hdm r0 hM2e m21 s2
    subst hc
    have hM2f : M2 = M - q * V := by rw [hM2e]; omega
    exact ⟨q + 1, true, u1, u2, q, w1, by omega, w4, by simpa using m1, fun _ => ⟨s1, by omega⟩, by simp, q0, qB, by omega, s4, kd12 hmid2 hM2f hmid, kd13 p0 hmid2 hM2f hdm r1 lo1, hv1, ev1.2⟩
end Go.Am.Tryd
/- Plain law: Div and Gcd of the program's numbers. -/
namespace Go.Am.Tryd
open Go Go.Am Go.Proofs
set_option linter.unusedSimpArgs false
set_option linter.unusedVariables false
variable {K : Nat}
theorem kf1 {Y p Z V U U2 O q : Int} (h : U + O * V = Z) (h2 : U2 + p * (q * V) = U) : U2 + (O + p * (q - 0)) * V = Z := by grind
theorem div_l2_step {o w v u1 u2 : List Int} {i m : Nat} {g q a1 a2 v1 : Int} {b : Bool} (hn : 2 ≤ v.length) (hk : i + v.length + 1 ≤ w.length) (hl : w.length ≤ 8000000) (ho : i < o.length) (h1 : w.getD (i + v.length) 0 = a1) (h2 : w.getD (i + v.length - 1) 0 = a2) (h3 : v.getD (v.length - 1) 0 = v1)
    (b1 : 0 ≤ a1 ∧ a1 < 1000000000) (b2 : 0 ≤ a2 ∧ a2 < 1000000000) (b3 : 1 ≤ v1 ∧ v1 < 1000000000) (hg : 0 ≤ g ∧ g < 1000000000) (hq : 0 ≤ q ∧ q < 1000000000) (d1 : g_nat_N_Div_l4 K v w i K ((a1 * 1000000000 + a2) / v1) ((a1 * 1000000000 + a2) % v1) = some g) (d4 : g_nat_N_minus K w v i g = some (b, u1)) (d5 : b = true → g_nat_N_plus K u1 v i = some u2 ∧ q = g - 1) (d6 : b = false → u2 = u1 ∧ q = g) :
    g_nat_N_Div_l2 K v (m + 1) o w i = g_nat_N_Div_l2 K v m (o.set i q) u2 ((i : Int) - 1) := by
  have t1 : ((i : Int) + (v.length : Int)).toNat = i + v.length := by omega
  have t2 : ((i : Int) + (v.length : Int) - 1).toNat = i + v.length - 1 := by omega
  have t3 : ((v.length : Int) - 1).toNat = v.length - 1 := by omega
  have hq1 : 0 ≤ (a1 * 1000000000 + a2) / v1 := Int.ediv_nonneg (by omega) (by omega)
  have hq2 : (a1 * 1000000000 + a2) / v1 ≤ a1 * 1000000000 + a2 := Int.ediv_le_self _ (by omega)
  rw [g_nat_N_Div_l2]
  cases b with
  | true =>
    obtain ⟨p1, p2⟩ := d5 rfl
    subst p2
    clear d5 d6
    simp (discharger := omega) only [decide_eq_true_eq, if_pos, if_neg, if_true, if_false, bsome, beq_iff, bne_iff, idxI, bidxI, sslI, lslI, k64, ku64, ku32, ku8, i64w, u64w, u32w, u8w, tdivI, tmodI, tu0a, tu1a, tu2a, tu3a, tu4a, tu5a, lta, bindSl, bindSr, outSl, outSr, Int.toNat_natCast, List.length_cons, List.length_nil, List.length_set, Int.toNat_zero, List.replicate_zero, t1, t2, t3, h1, h2, h3, d1, d4, p1]
  | false =>
    obtain ⟨p1, p2⟩ := d6 rfl
    subst p1 p2
    clear d5 d6
    simp (discharger := omega) only [decide_eq_true_eq, if_pos, if_neg, if_true, if_false, bsome, beq_iff, bne_iff, idxI, bidxI, sslI, lslI, k64, ku64, ku32, ku8, i64w, u64w, u32w, u8w, tdivI, tmodI, tu0a, tu1a, tu2a, tu3a, tu4a, tu5a, lta, bindSl, bindSr, outSl, outSr, Int.toNat_natCast, List.length_cons, List.length_nil, List.length_set, Int.toNat_zero, List.replicate_zero, t1, t2, t3, h1, h2, h3, d1, d4, Bool.false_eq_true]
theorem div_loop {u v : List Int} {J : Nat} (hn : 2 ≤ v.length) (hJ : J + v.length = u.length) (hJ1 : 1 ≤ J) (hl : u.length ≤ 8000000) (hK : 2000000000 < K) (du : DigB 1000000000 u) (cv : CanB 1000000000 v) (hu : valB 1000000000 u < 1000000000 ^ J * valB 1000000000 v) :
    ∃ r : List Int × List Int, g_nat_N_Div_l2 K v K (List.replicate J 0) u ((J : Int) - 1) = some r ∧ r.1.length = J ∧ r.2.length = u.length ∧ DigB 1000000000 r.1 ∧ DigB 1000000000 r.2 ∧ valB 1000000000 r.2 + valB 1000000000 r.1 * valB 1000000000 v = valB 1000000000 u ∧ valB 1000000000 r.2 < valB 1000000000 v := by
  refine loopW (fun m (s : List Int × List Int × Int) => g_nat_N_Div_l2 K v m s.1 s.2.1 s.2.2) (fun s => ∃ j : Nat, s.2.2 = (j : Int) - 1 ∧ j ≤ J ∧ s.1.length = J ∧ s.2.1.length = u.length ∧ DigB 1000000000 s.1 ∧ DigB 1000000000 s.2.1 ∧ (∀ i < j, s.1.getD i 0 = 0) ∧ valB 1000000000 s.2.1 + valB 1000000000 s.1 * valB 1000000000 v = valB 1000000000 u ∧ valB 1000000000 s.2.1 < 1000000000 ^ j * valB 1000000000 v) (fun s => (s.2.2 + 1).toNat) _ ?_ ((List.replicate J 0, u, (J : Int) - 1) : List Int × List Int × Int) (by dsimp only; omega) ⟨J, rfl, Nat.le_refl _, by simp, rfl, .zeros (by omega) _, du, fun i hi => by simp [List.getD_eq_getElem?_getD, hi], by simp [valB_zeros], hu⟩
  rintro m ⟨o, w, _⟩ ⟨j, rfl, hj, h1, h2, h3, h4, h5, h6, h7⟩
  dsimp only at h1 h2 h3 h4 h5 h6 h7 ⊢
  by_cases h0 : j = 0
  · subst h0
    left
    rw [Int.pow_zero, Int.one_mul] at h7
    exact ⟨(o, w), by rw [g_nat_N_Div_l2]; simp (discharger := omega) only [decide_eq_true_eq, if_pos, if_neg, if_true, if_false, bsome, beq_iff, bne_iff, idxI, bidxI, sslI, lslI, k64, ku64, ku32, ku8, i64w, u64w, u32w, u8w, tdivI, tmodI, tu0a, tu1a, tu2a, tu3a, tu4a, tu5a, lta, bindSl, bindSr, outSl, outSr, Int.toNat_natCast, List.length_cons, List.length_nil, List.length_set, Int.toNat_zero, List.replicate_zero], h1, h2, h3, h4, h6, h7⟩
  · right
    obtain ⟨i, rfl⟩ : ∃ i, j = i + 1 := ⟨j - 1, by omega⟩
    have e1 : ((i + 1 : Nat) : Int) - 1 = i := by omega
    rw [e1]
    obtain ⟨g, b, u1, u2, q, d1, d2, d3, d4, d5, d6, d7, d8, d9, d10, d11, d12, d13, d14⟩ := digit_step (K := K) (u := w) (v := v) (i := i) hn (by omega) (by omega) hK h4 cv h7
    have hz := h5 i (by omega)
    have hset := valB_set 1000000000 o i q (by omega)
    rw [hz] at hset
    have et1 := getD_dig (by omega) h4 (i + v.length)
    have et2 := getD_dig (by omega) h4 (i + v.length - 1)
    have hrun := div_l2_step (m := m) (o := o) (a1 := w.getD (i + v.length) 0) (a2 := w.getD (i + v.length - 1) 0) (v1 := v.getD (v.length - 1) 0) hn (show i + v.length + 1 ≤ w.length by omega) (by omega) (by omega) rfl rfl rfl et1 et2 ⟨d13, d14⟩ ⟨d2, d3⟩ ⟨d7, d8⟩ d1 d4 d5 d6
    refine ⟨(o.set i q, u2, (i : Int) - 1), hrun, by dsimp only; omega, i, rfl, by omega, by simp [h1], by dsimp only; omega, h3.set _ ⟨d7, d8⟩, d10, fun k hk => by dsimp only; rw [getD_set (by omega), if_neg (by omega)]; exact h5 k (by omega), ?_, d12⟩
    dsimp only
    rw [hset]
    exact kf1 (Y := 0) h6 d11
theorem len_mono {m n : Int} {x y : List Int} (hx : NumN m x) (hy : NumN n y) (h : m ≤ n) : x.length ≤ y.length := can_len_le (B := 1000000000) (by omega) hx.1 hy.1.1 (by rw [hx.2, hy.2]; exact h)
theorem kf2 {a b c : Int} (hc : 0 < c) (hb : 0 < b) : (a * c) / (b * c) = a / b ∧ (a * c) % (b * c) = (a % b) * c := by
  refine ⟨Int.mul_ediv_mul_of_pos_left a b hc, ?_⟩
  rw [Int.mul_comm a c, Int.mul_comm b c, Int.mul_emod_mul_of_pos a b hc, Int.mul_comm]
theorem ndiv_ok {x y : List Int} {a b : Int} (hx : x.length ≤ 3000000) (hy : y.length ≤ 3000000) (hK : 2000000000 < K) (nx : NumN a x) (ny : NumN b y) (hb : 0 < b) :
    ∃ q r, g_nat_N_Div K x y = some (q, r) ∧ NumN (a / b) q ∧ NumN (a % b) r ∧ q.length ≤ x.length ∧ r.length ≤ y.length := by
  have a0 := nx.nonneg
  suffices h : ∃ q r, g_nat_N_Div K x y = some (q, r) ∧ NumN (a / b) q ∧ NumN (a % b) r by
    obtain ⟨q, r, h1, h2, h3⟩ := h
    have e1 := Int.emod_lt_of_pos a hb
    exact ⟨q, r, h1, h2, h3, len_mono h2 nx (Int.ediv_le_self _ a0), len_mono h3 ny (by omega)⟩
  have hcmp := ncmp_ok (K := K) (by omega) (by omega) hK nx ny
  unfold g_nat_N_Div
  rw [hcmp, bsome]
  by_cases hab : a < b
  · refine ⟨[], x, ?_, by rw [Int.ediv_eq_zero_of_lt a0 hab]; exact .nil, by rw [Int.emod_eq_of_lt a0 hab]; exact nx⟩
    simp (discharger := omega) only [decide_eq_true_eq, if_pos, if_neg, if_true, if_false, bsome, beq_iff, bne_iff, idxI, bidxI, sslI, lslI, k64, ku64, ku32, ku8, i64w, u64w, u32w, u8w, tdivI, tmodI, tu0a, tu1a, tu2a, tu3a, tu4a, tu5a, lta, bindSl, bindSr, outSl, outSr, Int.toNat_natCast, List.length_cons, List.length_nil, List.length_set, Int.toNat_zero, List.replicate_zero]
  · have hcond : decide ((if a < b then (-1 : Int) else if a = b then 0 else 1) < 0) = false := by
      rw [if_neg hab]; split <;> rfl
    rw [hcond]
    simp only [Bool.false_eq_true, if_false]
    have hy0 : y.length ≠ 0 := fun e => by have := ny.len0.1 e; omega
    by_cases h1 : y.length = 1
    · obtain ⟨d, rfl⟩ := List.length_eq_one_iff.1 h1
      have hd := ny.1.1 d (by simp)
      have hbd : b = d := by rw [← ny.2]; simp [valB]
      subst hbd
      obtain ⟨q, r, s1, s2, s3, s4, s5⟩ := nshort_ok (K := K) (x := x) (a := a) (d := b) (by omega) hK nx (by omega)
      refine ⟨q, r, ?_, s2, s3⟩
      have e0 : idx [b] 0 = some b := rfl
      rw [if_pos (by simp), e0, bsome, s1, bsome]
    · rw [if_neg (by simp; omega)]
      obtain ⟨yr, d, hyd⟩ := last_split y (by rintro rfl; exact hy0 rfl)
      have hd := ny.1.1 d (by rw [hyd]; simp)
      have hidx : idx y (kwrap .i64 ((y.length : Int) - 1)) = some d := by
        rw [k64 (by omega) (by omega), idxI (by omega) (by omega)]
        congr 1
        subst hyd
        rw [show ((((yr ++ [d]).length : Nat) : Int) - 1).toNat = yr.length by simp, List.getD_eq_getElem?_getD]
        simp
      have hby1 : 1 ≤ 1000000000 / (d + 1) := by
        rw [Int.le_ediv_iff_mul_le (by omega)]; omega
      have hby2 : 1000000000 / (d + 1) ≤ 1000000000 := Int.ediv_le_self _ (by omega)
      have hd1 : d ≠ 0 := fun e => ny.1.2 (by rw [hyd, e]; simp)
      have hby3 : 1000000000 / (d + 1) < 1000000000 := Int.ediv_lt_of_lt_mul (by omega) (by omega)
      rw [hidx, bsome, u64w (a := d) (by omega) (by omega), ku64 (a := d + 1) (by omega) (by omega), if_pos (by omega), tdivI (by omega), ku64 (by omega) (by omega), lta]
      rw [u32w (by omega) (by omega)]
      generalize 1000000000 / (d + 1) = c at hby1 hby2 hby3
      have nc : NumN c [c] := .one (by omega) hby3
      obtain ⟨u0, m1, m2, m3⟩ := nmul_ok (K := K) (x := x) (y := [c]) (by simp; omega) hK nx nc
      obtain ⟨v, w1, w2, w3⟩ := nmul_ok (K := K) (x := y) (y := [c]) (by simp; omega) hK ny nc
      simp only [List.length_singleton] at m3 w3
      have ac : a ≤ a * c := by have := mul_le a0 hby1; omega
      have bc : b ≤ b * c := by have := mul_le (show 0 ≤ b by omega) hby1; omega
      have abc : b * c ≤ a * c := Int.mul_le_mul_of_nonneg_right (by omega) (by omega)
      have lx := len_mono nx m2 ac
      have ly := len_mono ny w2 bc
      have hy2 : 2 ≤ y.length := by omega
      have hv2 : 2 ≤ v.length := by omega
      have lv := len_mono w2 m2 abc
      have hl0 : g_nat_N_Div_l0 K x K (u0 ++ [0]) = some (u0 ++ [0]) := by
        obtain ⟨k, rfl⟩ : ∃ k, K = k + 1 := ⟨K - 1, by omega⟩
        rw [g_nat_N_Div_l0]
        have e : decide (((u0 ++ [0]).length : Int) ≤ (x.length : Int)) = false := decide_eq_false (by simp; omega)
        rw [e]; rfl
      have du : DigB 1000000000 (u0 ++ [0]) := m2.1.1.snoc (by omega)
      have hvu : valB 1000000000 (u0 ++ [0]) = a * c := by rw [valB_snoc, m2.2]; omega
      have hlen : (u0 ++ [(0 : Int)]).length = u0.length + 1 := by simp
      obtain ⟨J, hJ⟩ : ∃ J, J + v.length = u0.length + 1 := ⟨u0.length + 1 - v.length, by omega⟩
      have hbound : a * c < 1000000000 ^ J * (b * c) := by
        have b1 := valB_lt (B := 1000000000) (by omega) u0 m2.1.1
        have b2 := can_ge (B := 1000000000) (by omega) w2.1 (by intro e; rw [e] at hv2; simp at hv2)
        rw [m2.2] at b1
        rw [w2.2] at b2
        have pJ : (0 : Int) < 1000000000 ^ J := Int.pow_pos (by omega)
        have b3 := mul_le (Int.le_of_lt pJ) b2
        rw [← Int.pow_add, show J + (v.length - 1) = u0.length by omega] at b3
        omega
      obtain ⟨⟨o, w⟩, l1, l2, l3, l4, l5, l6, l7⟩ := div_loop (K := K) (u := u0 ++ [0]) (v := v) (J := J) (by omega) (by omega) (by omega) (by omega) hK du w2.1 (by rw [hvu, w2.2]; exact hbound)
      dsimp only at l2 l3 l4 l5 l6 l7
      rw [hvu, w2.2] at l6
      rw [w2.2] at l7
      have o0 := valB_nonneg (B := 1000000000) (by omega) o l4
      have w0 := valB_nonneg (B := 1000000000) (by omega) w l5
      have hbc0 : 0 < b * c := Int.mul_pos hb (by omega)
      obtain ⟨q1, q2⟩ := div_mod_of (n := a * c) (d := b * c) (q := valB 1000000000 o) (r := valB 1000000000 w) hbc0 (by rw [Int.mul_comm (b * c)]; omega) w0 l7
      obtain ⟨k1, k2⟩ := kf2 (a := a) (b := b) (c := c) (by omega) hb
      rw [k1] at q1
      rw [k2] at q2
      obtain ⟨t, t1, t2, t3, t4⟩ := trim_ok (K := K) (B := 1000000000) (l := w) (by omega) hK l5
      obtain ⟨z, z1, z2, z3, z4⟩ := trim_ok (K := K) (B := 1000000000) (l := o) (by omega) hK l4
      obtain ⟨rq, rr, s1, s2, s3, s4, s5⟩ := nshort_ok (K := K) (x := t) (a := a % b * c) (d := c) (by omega) hK ⟨t2, by rw [t3]; exact q2⟩ (by omega)
      rw [Int.mul_ediv_cancel _ (by omega)] at s2
      refine ⟨z, rq, ?_, ⟨z2, by rw [z3]; exact q1⟩, s2⟩
      rw [m1, bsome, if_pos (by simp; omega), w1, bsome, hl0, bsome, tu1a, lta, hlen]
      have e1 : (((u0.length + 1 : Nat) : Int) - (v.length : Int)) = (J : Int) := by omega
      rw [e1, k64 (by omega) (by omega), if_pos (by omega), lta, k64 (by omega) (by omega), Int.toNat_natCast, l1, bsome, tu2a, t1, bsome, s1, bsome, z1, bsome]
/-! ### The greatest common divisor -/
theorem gcd_step (a b : Nat) (hb : 0 < b) : Nat.gcd b (a % b) = Nat.gcd a b := by
  rw [Nat.gcd_comm a b, Nat.gcd_rec b a, Nat.gcd_comm]
theorem ngcd_loop : ∀ (n k : Nat) {x y : List Int} {a b : Nat}, a * b < 2 ^ n → b ≤ a → n + 2 < k → x.length ≤ 3000000 → y.length ≤ 3000000 → 2000000000 < K → NumN a x → NumN b y → ∃ z, g_nat_N_Gcd_l0 K k x y = some z ∧ NumN (Nat.gcd a b : Nat) z := by
  intro n
  induction n with
  | zero =>
    intro k x y a b hab hba hk hx hy hK nx ny
    have hb : b = 0 := by
      rcases Nat.eq_zero_or_pos b with h | h
      · exact h
      · have := Nat.mul_pos (show 0 < a by omega) h; omega
    subst hb
    obtain ⟨k, rfl⟩ : ∃ m, k = m + 1 := ⟨k - 1, by omega⟩
    have : y = [] := ny.nil_iff.2 rfl
    subst this
    exact ⟨x, by rw [g_nat_N_Gcd_l0]; rfl, by rw [Nat.gcd_zero_right]; exact nx⟩
  | succ n ih =>
    intro k x y a b hab hba hk hx hy hK nx ny
    obtain ⟨k, rfl⟩ : ∃ m, k = m + 1 := ⟨k - 1, by omega⟩
    by_cases hb : b = 0
    · subst hb
      have : y = [] := ny.nil_iff.2 rfl
      subst this
      exact ⟨x, by rw [g_nat_N_Gcd_l0]; rfl, by rw [Nat.gcd_zero_right]; exact nx⟩
    · obtain ⟨q, r, d1, d2, d3, d4, d5⟩ := ndiv_ok (K := K) hx hy hK nx ny (by omega)
      have e : ((a : Int) % (b : Int)) = ((a % b : Nat) : Int) := by simp
      rw [e] at d3
      have hr := Nat.mod_lt a (show 0 < b by omega)
      have hprod : b * (a % b) < 2 ^ n := by
        have h1 : b + a % b ≤ a := by
          have h2 := Nat.div_add_mod a b
          have h3 : 1 ≤ a / b := (Nat.le_div_iff_mul_le (by omega)).2 (by omega)
          have h4 := Nat.mul_le_mul_left b h3
          omega
        have h5 := Nat.mul_le_mul_left b (show 2 * (a % b) ≤ a by omega)
        rw [Nat.pow_succ] at hab
        have h6 : b * (2 * (a % b)) = 2 * (b * (a % b)) := by grind
        rw [Nat.mul_comm a b] at hab
        omega
      obtain ⟨z, z1, z2⟩ := ih k hprod (by omega) (by omega) hy (by omega) hK ny d3
      refine ⟨z, ?_, by rw [← gcd_step a b (by omega)]; exact z2⟩
      have hy0 : y.length ≠ 0 := fun e => by have := ny.len0.1 e; omega
      rw [g_nat_N_Gcd_l0, if_pos (decide_eq_true (by omega)), d1, bsome, z1]
theorem num_lt_pow {n : Nat} {x : List Int} (h : NumN n x) : n < 2 ^ (30 * x.length) := by
  have h1 := valB_lt (B := 1000000000) (by omega) x h.1.1
  rw [h.2] at h1
  have h2 : ((1000000000 : Nat) : Int) ^ x.length = ((1000000000 ^ x.length : Nat) : Int) := by simp
  have h3 : n < 1000000000 ^ x.length := by
    have h4 : (1000000000 : Int) = ((1000000000 : Nat) : Int) := rfl
    rw [h4, h2] at h1
    omega
  have h5 : (1000000000 : Nat) ^ x.length ≤ (2 ^ 30) ^ x.length := Nat.pow_le_pow_left (by decide) _
  rw [← Nat.pow_mul] at h5
  omega
theorem ngcd_ok {x y : List Int} {a b : Nat} (hx : x.length ≤ 3000000) (hy : y.length ≤ 3000000) (hK : 2000000000 < K) (nx : NumN a x) (ny : NumN b y) : ∃ z, g_nat_N_Gcd K x y = some z ∧ NumN (Nat.gcd a b : Nat) z := by
  have hp : a * b < 2 ^ (30 * x.length + 30 * y.length) := by
    rw [Nat.pow_add]
    have h1 := num_lt_pow nx
    have h2 := num_lt_pow ny
    exact Nat.mul_lt_mul_of_lt_of_le h1 (Nat.le_of_lt h2) (Nat.pow_pos (by omega))
  have key : ∃ z, g_nat_N_Gcd_l0 K K x y = some z ∧ NumN (Nat.gcd a b : Nat) z := by
    by_cases hba : b ≤ a
    · exact ngcd_loop _ K hp hba (by omega) hx hy hK nx ny
    · obtain ⟨k, hk⟩ : ∃ k, K = k + 1 := ⟨K - 1, by omega⟩
      obtain ⟨q, r, d1, d2, d3, d4, d5⟩ := ndiv_ok (K := K) hx hy hK nx ny (by omega)
      rw [Int.emod_eq_of_lt (by omega) (by omega)] at d3
      have hrx : r = x := d3.inj nx
      subst hrx
      obtain ⟨z, z1, z2⟩ := ngcd_loop (K := K) _ k (by rw [Nat.mul_comm]; exact hp) (by omega) (by omega) hy hx hK ny nx
      refine ⟨z, ?_, by rw [Nat.gcd_comm]; exact z2⟩
      have hy0 : y.length ≠ 0 := fun e => by have := ny.len0.1 e; omega
      have : g_nat_N_Gcd_l0 K K r y = g_nat_N_Gcd_l0 K (k + 1) r y := by rw [← hk]
      rw [this, g_nat_N_Gcd_l0, if_pos (decide_eq_true (by omega)), d1, bsome, z1]
  obtain ⟨z, z1, z2⟩ := key
  exact ⟨z, by unfold g_nat_N_Gcd; rw [z1]; rfl, z2⟩
end Go.Am.Tryd
/- Plain law: the reference's quotient and divisor of texts. -/
namespace Go.Am.Tryd
open Go Go.Am Go.Proofs
set_option linter.unusedSimpArgs false
set_option linter.unusedVariables false
variable {K : Nat}
theorem encode_dig {c : Int} (h : 48 ≤ c ∧ c ≤ 57) : bytesOf (Utf8.encode c) = [c] ∧ (Utf8.encode c).size = 1 := by
  obtain ⟨n, rfl⟩ : ∃ n : Nat, c = n := ⟨c.toNat, by omega⟩
  have hn : n = 48 ∨ n = 49 ∨ n = 50 ∨ n = 51 ∨ n = 52 ∨ n = 53 ∨ n = 54 ∨ n = 55 ∨ n = 56 ∨ n = 57 := by omega
  rcases hn with rfl | rfl | rfl | rfl | rfl | rfl | rfl | rfl | rfl | rfl <;> exact ⟨by decide +kernel, by decide +kernel⟩
theorem ks1 {R b d R0 : Int} (h : R + (d - 48) * b = R0) : R - b + (d + 1 - 48) * b = R0 := by grind
theorem rdiv_in {b : ByteArray} {r0 : ByteArray} (hb : b.size ≤ 500000) (hr : r0.size ≤ 1000000) (hK : 2000000000 < K) (cb : CanT b) (c0 : CanT r0) (hb0 : 0 < numT b) (hlt : numT r0 < 10 * numT b) :
    ∃ r : ByteArray × Int, g_R_NatDiv_l2 K b K r0 48 = some r ∧ CanT r.1 ∧ (48 ≤ r.2 ∧ r.2 ≤ 57) ∧ numT r.1 + (r.2 - 48) * numT b = numT r0 ∧ numT r.1 < numT b := by
  refine loopW (fun k (s : ByteArray × Int) => g_R_NatDiv_l2 K b k s.1 s.2) (fun s => CanT s.1 ∧ s.1.size ≤ 1000000 ∧ (48 ≤ s.2 ∧ s.2 ≤ 57) ∧ numT s.1 + (s.2 - 48) * numT b = numT r0) (fun s => (57 - s.2).toNat) _ ?_ ((r0, 48) : ByteArray × Int) (by dsimp only; omega) ⟨c0, hr, by dsimp only; omega, by dsimp only; omega⟩
  rintro k ⟨r, d⟩ ⟨h1, h2, h3, h4⟩
  dsimp only at h1 h2 h3 h4 ⊢
  have hcmp := cmp_ref (K := K) h1 cb
  have r0' := numT_nonneg h1.2.1
  by_cases hge : numT b ≤ numT r
  · right
    obtain ⟨t, t1, t2, t3⟩ := sub_ref (K := K) (a := r) (b := b) h2 (canT_size h1 cb hge) (by have := h1.1; omega) (by omega) h1.2.1 cb.2.1 hge
    have hd : d ≤ 56 := by
      refine Int.not_lt.1 fun hlt2 => ?_
      have : d = 57 := by omega
      subst this
      omega
    refine ⟨(t, d + 1), ?_, by dsimp only; omega, t2, ?_, by dsimp only; omega, by dsimp only; rw [t3]; exact ks1 h4⟩
    · rw [g_R_NatDiv_l2, hcmp, bsome]
      rw [if_pos (decide_eq_true (by rw [if_neg (by omega)]; split <;> omega)), t1, bsome, ku8 (by omega) (by omega)]
    · dsimp only
      have := canT_size h1 t2 (by rw [t3]; omega)
      omega
  · left
    refine ⟨(r, d), ?_, h1, h3, h4, by dsimp only; omega⟩
    rw [g_R_NatDiv_l2, hcmp, bsome]
    have e : decide ((if numT r < numT b then (-1 : Int) else if numT r = numT b then 0 else 1) ≥ 0) = false := by
      rw [if_pos (by omega)]; rfl
    rw [e]; rfl
theorem ks3 {Q b R R2 A c d : Int} (h : Q * b + R = A) (h2 : R2 + d * b = R * 10 + c) : (Q * 10 + d) * b + R2 = A * 10 + c := by grind
theorem rdiv_loop {a b r0 : ByteArray} {f : Nat} (ha : a.size ≤ 500000) (hb : b.size ≤ 500000) (hK : 2000000000 < K) (da : (bytesOf a).all digT = true) (cb : CanT b) (hb0 : 0 < numT b) (hf : f ≤ a.size) (c0 : CanT r0) (hs0 : r0.size ≤ 500000) (h0 : numT r0 = numB ((bytesOf a).take f)) (hlt : numT r0 < numT b) :
    ∃ r : ByteArray × ByteArray, g_R_NatDiv_l0 K a b K ⟨#[48]⟩ r0 f = some r ∧ r.1.size ≤ a.size + 1 ∧ 0 < r.1.size ∧ (bytesOf r.1).all digT = true ∧ CanT r.2 ∧ numT r.1 * numT b + numT r.2 = numT a ∧ numT r.2 < numT b := by
  have hn := bytesOf_length a
  refine loopW (fun k (s : ByteArray × ByteArray × Int) => g_R_NatDiv_l0 K a b k s.1 s.2.1 s.2.2) (fun s => ∃ i : Nat, s.2.2 = i ∧ i ≤ a.size ∧ 0 < s.1.size ∧ s.1.size ≤ i + 1 ∧ (bytesOf s.1).all digT = true ∧ CanT s.2.1 ∧ numT s.1 * numT b + numT s.2.1 = numB ((bytesOf a).take i) ∧ numT s.2.1 < numT b ∧ s.2.1.size ≤ 500000) (fun s => (a.size - s.2.2 : Int).toNat) _ ?_ ((⟨#[48]⟩, r0, (f : Int)) : ByteArray × ByteArray × Int) (by dsimp only; omega) ⟨f, rfl, hf, by show 0 < 1; omega, by show 1 ≤ f + 1; omega, rfl, c0, by rw [← h0]; show numT ⟨#[48]⟩ * numT b + numT r0 = numT r0; rw [numT_zero]; omega, hlt, hs0⟩
  rintro k ⟨q, r, _⟩ ⟨i, rfl, h1, h2, h3, h4, h5, h6, h7, h8⟩
  dsimp only at h2 h3 h4 h5 h6 h7 h8 ⊢
  by_cases hi : i < a.size
  · right
    have hc := getD_digT da (i := i) (by omega)
    have hsn := take_snoc (l := bytesOf a) (i := i) (by omega)
    generalize hcc : (bytesOf a).getD i 0 = c at hc hsn
    obtain ⟨e, he1, he2, he3⟩ : ∃ e, ssl a i ((i : Int) + 1) = some e ∧ bytesOf e = [c] ∧ e.size = 1 := by
      refine ⟨_, sslI (by omega) (by omega) (by omega), ?_, ?_⟩
      · rw [bytesOf_extract, Int.toNat_natCast, show ((i : Int) + 1).toNat - i = 1 by omega, List.drop_eq_getElem_cons (by omega), List.take_succ_cons, List.take_zero]
        rw [List.getD_eq_getElem?_getD, List.getElem?_eq_getElem (by omega)] at hcc
        simpa using hcc
      · rw [← bytesOf_length, bytesOf_extract, List.length_take, List.length_drop]; omega
    have hbr : bytesOf (r ++ e) = bytesOf r ++ [c] := by rw [bytesOf_append, he2]
    have hdr : (bytesOf (r ++ e)).all digT = true := by rw [hbr, List.all_append, h5.2.1]; simpa using digT_iff.2 hc
    have hsr : (r ++ e).size = r.size + 1 := by rw [← bytesOf_length, hbr, List.length_append, bytesOf_length]; rfl
    obtain ⟨t, t1, t2, t3⟩ := strip_ref (K := K) (s := r ++ e) (by omega) (by omega) (by omega) hdr
    have hnr : numT (r ++ e) = numT r * 10 + (c - 48) := by rw [numT_B, hbr, numB_snoc]; rfl
    have htl : numT t < 10 * numT b := by rw [t3, hnr]; omega
    have hts : t.size ≤ 1000000 := by
      have := canT_size (b := t) (a := t) t2 t2 (Int.le_refl _)
      refine Nat.not_lt.1 fun hlt2 => ?_
      have g1 := canT_ge t2 (by omega)
      have g2 := numT_lt hdr
      have g3 : (10 : Int) ^ (r ++ e).size ≤ 10 ^ (t.size - 1) := ipow_le (by omega) (by omega)
      omega
    obtain ⟨⟨r2, d⟩, s1, s2, s3, s4, s5⟩ := rdiv_in (K := K) (b := b) (r0 := t) hb hts hK cb t2 hb0 htl
    dsimp only at s2 s3 s4 s5
    obtain ⟨n1, n2⟩ := encode_dig s3
    have hbq : bytesOf (q ++ Utf8.encode d) = bytesOf q ++ [d] := by rw [bytesOf_append, n1]
    have hsq : (q ++ Utf8.encode d).size = q.size + 1 := by rw [← bytesOf_length, hbq, List.length_append, bytesOf_length]; rfl
    have hr2s : r2.size ≤ 500000 := by
      have := canT_size cb s2 (by omega)
      omega
    refine ⟨(q ++ Utf8.encode d, r2, (i : Int) + 1), ?_, by dsimp only; omega, i + 1, rfl, by omega, by dsimp only; omega, by dsimp only; omega, ?_, s2, ?_, s5, hr2s⟩
    · rw [g_R_NatDiv_l0, if_pos (decide_eq_true (by omega)), k64 (by omega) (by omega), he1, bsome, if_pos (by omega), t1, bsome, s1, bsome, tu2a, if_pos (by dsimp only; omega)]
    · dsimp only; rw [hbq, List.all_append, h4]; simpa using digT_iff.2 s3
    · dsimp only
      rw [hsn, numB_snoc, numT_B (q ++ Utf8.encode d), hbq, numB_snoc]
      refine ks3 h6 ?_
      rw [s4, t3, hnr]
  · left
    have : i = a.size := by omega
    subst this
    rw [List.take_of_length_le (by omega)] at h6
    exact ⟨(q, r), by rw [g_R_NatDiv_l0]; simp (discharger := omega) only [decide_eq_true_eq, if_pos, if_neg, if_true, if_false, bsome, beq_iff, bne_iff, idxI, bidxI, sslI, lslI, k64, ku64, ku32, ku8, i64w, u64w, u32w, u8w, tdivI, tmodI, tu0a, tu1a, tu2a, tu3a, tu4a, tu5a, lta, bindSl, bindSr, outSl, outSr, Int.toNat_natCast, List.length_cons, List.length_nil, List.length_set, Int.toNat_zero, List.replicate_zero], h3, h2, h4, h5, h6, h7⟩
theorem div_ref {a b : ByteArray} (ha : a.size ≤ 400000) (hb : b.size ≤ 400000) (hK : 2000000000 < K) (ca : CanT a) (cb : CanT b) (hb0 : 0 < numT b) :
    ∃ q r, g_R_NatDiv K a b = some (q, r) ∧ CanT q ∧ CanT r ∧ numT q = numT a / numT b ∧ numT r = numT a % numT b := by
  have hn := bytesOf_length a
  have hcb := cb.1
  obtain ⟨f, hf1, hf2, hf3⟩ : ∃ f : Nat, imin (a.size : Int) (kwrap .i64 ((b.size : Int) - 1)) = f ∧ f ≤ a.size ∧ f ≤ b.size - 1 := by
    rw [k64 (by omega) (by omega)]
    unfold imin
    by_cases h : (b.size : Int) - 1 < a.size
    · exact ⟨b.size - 1, by rw [if_pos h]; omega, by omega, by omega⟩
    · exact ⟨a.size, by rw [if_neg h], by omega, by omega⟩
  have hx : ssl a 0 (f : Int) = some (a.extract 0 f) := by rw [sslI (by omega) (by omega) (by omega)]; rfl
  have hxb : bytesOf (a.extract 0 f) = (bytesOf a).take f := by rw [bytesOf_extract]; simp
  have hxs : (a.extract 0 f).size = f := by rw [← bytesOf_length, hxb, List.length_take]; omega
  have hzb : bytesOf ((⟨#[48]⟩ : ByteArray) ++ a.extract 0 f) = 48 :: (bytesOf a).take f := by rw [bytesOf_append, hxb]; rfl
  have hzs : ((⟨#[48]⟩ : ByteArray) ++ a.extract 0 f).size = f + 1 := by rw [← bytesOf_length, hzb, List.length_cons, List.length_take]; omega
  have hzd : (bytesOf ((⟨#[48]⟩ : ByteArray) ++ a.extract 0 f)).all digT = true := by rw [hzb, List.all_cons, all_take ca.2.1]; rfl
  obtain ⟨t, t1, t2, t3⟩ := strip_ref (K := K) (s := (⟨#[48]⟩ : ByteArray) ++ a.extract 0 f) (by omega) (by omega) (by omega) hzd
  have hv : numT t = numB ((bytesOf a).take f) := by rw [t3, numT_B, hzb, numB_cons]; simp
  have hlt : numT t < numT b := by
    have d1 := numB_lt (all_take ca.2.1 f)
    rw [List.length_take, Nat.min_eq_left (by omega)] at d1
    rw [hv]
    by_cases h2 : 2 ≤ b.size
    · have d2 := canT_ge cb h2
      have d3 : (10 : Int) ^ f ≤ 10 ^ (b.size - 1) := ipow_le (by omega) hf3
      omega
    · have : f = 0 := by omega
      subst this
      rw [List.take_zero, numB_nil]; exact hb0
  have hts : t.size ≤ 500000 := by
    have := canT_size cb t2 (by omega)
    omega
  obtain ⟨⟨q, r⟩, s1, s2, s3, s4, s5, s6, s7⟩ := rdiv_loop (K := K) (a := a) (b := b) (r0 := t) (f := f) (by omega) (by omega) hK ca.2.1 cb hb0 hf2 t2 hts hv hlt
  dsimp only at s2 s3 s4 s5 s6 s7
  obtain ⟨u, u1, u2, u3⟩ := strip_ref (K := K) (s := q) (by omega) s3 (by omega) s4
  obtain ⟨e1, e2⟩ := div_mod_of (n := numT a) (d := numT b) (q := numT q) (r := numT r) hb0 (by rw [Int.mul_comm]; omega) (numT_nonneg s5.2.1) s7
  refine ⟨u, r, ?_, u2, s5, by rw [u3, e1], e2⟩
  unfold g_R_NatDiv
  rw [hf1, hx, bsome, if_pos (by rw [hxs]; show 1 + f ≤ _; omega), t1, bsome, s1, bsome, tu2a, u1, bsome]
theorem rgcd_loop : ∀ (n k : Nat) {x y : ByteArray} {a b : Nat}, a * b < 2 ^ n → b ≤ a → n + 2 < k → x.size ≤ 400000 → y.size ≤ 400000 → 2000000000 < K → CanT x → CanT y → numT x = a → numT y = b → ∃ z, g_R_NatGcd_l0 K k x y = some z ∧ CanT z ∧ numT z = (Nat.gcd a b : Nat) := by
  intro n
  have hend : ∀ (k : Nat) {x y : ByteArray} {a : Nat}, 0 < k → CanT x → CanT y → numT x = a → numT y = (0 : Nat) → ∃ z, g_R_NatGcd_l0 K k x y = some z ∧ CanT z ∧ numT z = (Nat.gcd a 0 : Nat) := by
    intro k x y a hk cx cy nx ny
    obtain ⟨k, rfl⟩ : ∃ m, k = m + 1 := ⟨k - 1, by omega⟩
    have : y = ⟨#[48]⟩ := (canT_eq0 cy).1 (by simpa using ny)
    subst this
    have e : sEq (⟨#[48]⟩ : ByteArray) ⟨#[48]⟩ = true := sEq_iff.2 rfl
    exact ⟨x, by rw [g_R_NatGcd_l0, e]; rfl, cx, by rw [Nat.gcd_zero_right]; exact nx⟩
  induction n with
  | zero =>
    intro k x y a b hab hba hk hx hy hK cx cy nx ny
    have hb : b = 0 := by
      rcases Nat.eq_zero_or_pos b with h | h
      · exact h
      · have := Nat.mul_pos (show 0 < a by omega) h; omega
    subst hb
    exact hend k (by omega) cx cy nx ny
  | succ n ih =>
    intro k x y a b hab hba hk hx hy hK cx cy nx ny
    by_cases hb : b = 0
    · subst hb; exact hend k (by omega) cx cy nx ny
    · obtain ⟨k, rfl⟩ : ∃ m, k = m + 1 := ⟨k - 1, by omega⟩
      obtain ⟨q, r, d1, d2, d3, d4, d5⟩ := div_ref (K := K) hx hy hK cx cy (by omega)
      rw [nx, ny] at d5
      have e : ((a : Int) % (b : Int)) = ((a % b : Nat) : Int) := by simp
      rw [e] at d5
      have hr := Nat.mod_lt a (show 0 < b by omega)
      have hprod : b * (a % b) < 2 ^ n := by
        have h1 : b + a % b ≤ a := by
          have h2 := Nat.div_add_mod a b
          have h3 : 1 ≤ a / b := (Nat.le_div_iff_mul_le (by omega)).2 (by omega)
          have h4 := Nat.mul_le_mul_left b h3
          omega
        have h5 := Nat.mul_le_mul_left b (show 2 * (a % b) ≤ a by omega)
        rw [Nat.pow_succ] at hab
        have h6 : b * (2 * (a % b)) = 2 * (b * (a % b)) := by grind
        rw [Nat.mul_comm a b] at hab
        omega
      have hrs := canT_size cy d3 (by rw [ny, d5]; omega)
      obtain ⟨z, z1, z2, z3⟩ := ih k hprod (by omega) (by omega) hy (by omega) hK cy d3 ny d5
      refine ⟨z, ?_, z2, by rw [← gcd_step a b (by omega)]; exact z3⟩
      have e0 : sEq y ⟨#[48]⟩ = false := by
        cases e : sEq y ⟨#[48]⟩ with
        | false => rfl
        | true => rw [sEq_iff] at e; subst e; rw [numT_zero] at ny; omega
      rw [g_R_NatGcd_l0, e0]
      simp only [Bool.not_false, if_true]
      rw [d1, bsome, z1]
theorem canT_lt_pow {n : Nat} {x : ByteArray} (h : (bytesOf x).all digT = true) (hn : numT x = n) : n < 2 ^ (4 * x.size) := by
  have h1 := numT_lt h
  rw [hn] at h1
  have h2 : ((10 : Nat) : Int) ^ x.size = ((10 ^ x.size : Nat) : Int) := by simp
  have h3 : n < 10 ^ x.size := by
    have h4 : (10 : Int) = ((10 : Nat) : Int) := rfl
    rw [h4, h2] at h1
    omega
  have h5 : (10 : Nat) ^ x.size ≤ (2 ^ 4) ^ x.size := Nat.pow_le_pow_left (by decide) _
  rw [← Nat.pow_mul] at h5
  omega
theorem gcd_ref {x y : ByteArray} {a b : Nat} (hx : x.size ≤ 400000) (hy : y.size ≤ 400000) (hK : 2000000000 < K) (cx : CanT x) (cy : CanT y) (nx : numT x = a) (ny : numT y = b) : ∃ z, g_R_NatGcd K x y = some z ∧ CanT z ∧ numT z = (Nat.gcd a b : Nat) := by
  have hp : a * b < 2 ^ (4 * x.size + 4 * y.size) := by
    rw [Nat.pow_add]
    exact Nat.mul_lt_mul_of_lt_of_le (canT_lt_pow cx.2.1 nx) (Nat.le_of_lt (canT_lt_pow cy.2.1 ny)) (Nat.pow_pos (by omega))
  have key : ∃ z, g_R_NatGcd_l0 K K x y = some z ∧ CanT z ∧ numT z = (Nat.gcd a b : Nat) := by
    by_cases hba : b ≤ a
    · exact rgcd_loop _ K hp hba (by omega) hx hy hK cx cy nx ny
    · obtain ⟨k, hk⟩ : ∃ k, K = k + 1 := ⟨K - 1, by omega⟩
      obtain ⟨q, r, d1, d2, d3, d4, d5⟩ := div_ref (K := K) hx hy hK cx cy (by omega)
      rw [Int.emod_eq_of_lt (numT_nonneg cx.2.1) (by omega)] at d5
      have hrx : r = x := numT_inj d3 cx d5
      subst hrx
      obtain ⟨z, z1, z2, z3⟩ := rgcd_loop (K := K) _ k (by rw [Nat.mul_comm]; exact hp) (by omega) (by omega) hy hx hK cy cx ny nx
      refine ⟨z, ?_, z2, by rw [Nat.gcd_comm]; exact z3⟩
      have e0 : sEq y ⟨#[48]⟩ = false := by
        cases e : sEq y ⟨#[48]⟩ with
        | false => rfl
        | true => rw [sEq_iff] at e; subst e; rw [numT_zero] at ny; omega
      have : g_R_NatGcd_l0 K K r y = g_R_NatGcd_l0 K (k + 1) r y := by rw [← hk]
      rw [this, g_R_NatGcd_l0, e0]
      simp only [Bool.not_false, if_true]
      rw [d1, bsome, z1]
  obtain ⟨z, z1, z2⟩ := key
  exact ⟨z, by unfold g_R_NatGcd; rw [z1]; rfl, z2⟩
end Go.Am.Tryd
/- Plain law: NatChecks answers true. -/
namespace Go.Am.Tryd
open Go Go.Am Go.Proofs
set_option linter.unusedSimpArgs false
set_option linter.unusedVariables false
set_option maxRecDepth 100000
def digB (c : Int) : Bool := decide (48 ≤ c) && decide (c ≤ 57)
theorem runS_dig : ∀ (l : List Int), runS (fun c (_ : Unit) => if digB c then .inr () else .inl (5 : Int)) l () = if l.all digB then .inr () else .inl 5
  | [] => rfl
  | x :: l => by
    simp only [runS, List.all_cons]
    by_cases hp : digB x = true
    · simp only [hp, if_true, Bool.true_and, Sum.elim_inr]; exact runS_dig l
    · simp [hp]
theorem dig_if {α : Type} (c : Int) (A B : Option α) : Option.bind (if (decide (c < 48)) = true then some true else some (decide (c > 57))) (tu1 fun x => if x = true then A else B) = if digB c = true then B else A := by
  unfold digB
  by_cases h1 : c < 48 <;> by_cases h2 : c > 57 <;> simp [h1, h2, tu1, show ¬ (48 : Int) ≤ c ↔ c < 48 by omega] <;> (try split) <;> (try omega) <;> rfl
variable {K : Nat} {s : ByteArray}
theorem digits_prog (hs : s.size ≤ 1048576) (hK : s.size < K) : g_nat_Check_l0 K s K 0 = some (if (bytesOf s).all digB then .inr () else .inl 5) := by
  have hn := bytesOf_length s
  have h : g_nat_Check_l0 K s K 0 = _ := loop_sum0 (bytesOf s) (fun k (_ : Unit) i => g_nat_Check_l0 K s k i) (fun c (_ : Unit) => if digB c then .inr () else .inl (5 : Int)) (fun _ _ => True)
    (fun k _ i x hx _ => by
      have hi := (List.getElem?_eq_some_iff.1 hx).1
      show g_nat_Check_l0 K s (k + 1) i = _
      rw [g_nat_Check_l0, lt_nat hi, if_pos rfl, idx_nat hx]
      simp only [Option.bind_some, dig_if, kw1 hi (by omega)]
      cases digB x <;> simp)
    (fun _ _ _ _ _ _ _ => trivial)
    (fun k _ i hi => by
      show g_nat_Check_l0 K s (k + 1) i = _
      rw [g_nat_Check_l0, nlt_nat hi]; simp) K () (by omega) trivial
  rw [h, runS_dig]
theorem digits_ref (hs : s.size ≤ 1048576) (hK : s.size < K) : g_R_NatError_l0 K s K 0 = some (if (bytesOf s).all digB then .inr () else .inl 5) := by
  have hn := bytesOf_length s
  have h : g_R_NatError_l0 K s K 0 = _ := loop_sum0 (bytesOf s) (fun k (_ : Unit) i => g_R_NatError_l0 K s k i) (fun c (_ : Unit) => if digB c then .inr () else .inl (5 : Int)) (fun _ _ => True)
    (fun k _ i x hx _ => by
      have hi := (List.getElem?_eq_some_iff.1 hx).1
      show g_R_NatError_l0 K s (k + 1) i = _
      rw [g_R_NatError_l0, ← hn, lt_nat hi, if_pos rfl, bidx_eq, idx_nat hx]
      simp only [Option.bind_some, dig_if, kw1 hi (by omega)]
      cases digB x <;> simp)
    (fun _ _ _ _ _ _ _ => trivial)
    (fun k _ i hi => by
      show g_R_NatError_l0 K s (k + 1) i = _
      rw [g_R_NatError_l0, ← hn, nlt_nat hi]; simp) K () (by omega) trivial
  rw [h, runS_dig]
def natE (s : ByteArray) : Int := if s.size = 0 then 5 else if (bytesOf s).head? = some 48 ∧ s.size > 1 then 5 else if !(bytesOf s).all digB then 5 else if s.size > 2000 then 2 else 0
theorem sEq_nil : sEq s ⟨#[]⟩ = (s.size == 0) := by
  cases hq : sEq s ⟨#[]⟩ with
  | true => rw [sEq_iff] at hq; subst hq; rfl
  | false =>
    have : s.size ≠ 0 := fun h => by
      have : s = ⟨#[]⟩ := by
        cases s with
        | mk d => congr 1; exact Array.eq_empty_of_size_eq_zero h
      rw [sEq_iff.2 this] at hq; cases hq
    simp [this]
theorem first_at (h : s.size ≠ 0) : ∃ c, bidx s 0 = some c ∧ (bytesOf s).head? = some c := by
  have hn := bytesOf_length s
  cases hb : bytesOf s with
  | nil => rw [hb] at hn; simp at hn; omega
  | cons c l => exact ⟨c, by rw [bidx_eq, hb]; rfl, rfl⟩
theorem check_prog (hs : s.size ≤ 1048576) (hK : s.size < K) : g_nat_Check K s = some (natE s) := by
  unfold g_nat_Check natE
  rw [digits_prog hs hK, sEq_nil]
  by_cases h0 : s.size = 0
  · simp [h0, tu1]
  · obtain ⟨c, h1, h2⟩ := first_at h0
    rw [h1, h2]
    have h0' : (s.size == 0) = false := by simpa using h0
    by_cases hc : c = 48 <;> by_cases h3 : s.size > 1 <;> by_cases h4 : s.size > 2000 <;> cases h5 : (bytesOf s).all digB <;>
      simp [h0, h0', hc, h3, h4, h5, tu1, tu0, bindS, show ((s.size : Int) > 1) ↔ s.size > 1 by omega, show ((s.size : Int) > 2000) ↔ s.size > 2000 by omega] <;> omega
theorem error_ref (hs : s.size ≤ 1048576) (hK : s.size < K) : g_R_NatError K s = some (natE s) := by
  unfold g_R_NatError natE
  rw [digits_ref hs hK]
  by_cases h0 : s.size = 0
  · simp [h0, tu1]
  · obtain ⟨c, h1, h2⟩ := first_at h0
    rw [h1, h2]
    have h0' : ((s.size : Int) == 0) = false := by rw [beq_eq_false_iff_ne]; omega
    by_cases hc : c = 48 <;> by_cases h3 : s.size > 1 <;> by_cases h4 : s.size > 2000 <;> cases h5 : (bytesOf s).all digB <;>
      simp [h0, h0', hc, h3, h4, h5, tu1, tu0, bindS, show ((s.size : Int) > 1) ↔ s.size > 1 by omega, show ((s.size : Int) > 2000) ↔ s.size > 2000 by omega] <;> omega
/-- The error of a number is none: it is a canonical text of at most 2000 digits. -/
theorem digB_eq : digB = digT := rfl
theorem natE_ok (s : ByteArray) : natE s = 0 ↔ CanT s ∧ s.size ≤ 2000 := by
  unfold natE CanT
  rw [digB_eq]
  by_cases h0 : s.size = 0
  · simp [h0]
  · by_cases h1 : (bytesOf s).head? = some 48 ∧ s.size > 1
    · rw [if_neg h0, if_pos h1]
      constructor
      · intro h; cases h
      · rintro ⟨⟨_, _, h⟩, _⟩; have := h h1.1; omega
    · rw [if_neg h0, if_neg h1]
      cases h2 : (bytesOf s).all digT with
      | false => simp
      | true =>
        simp only [Bool.not_true, Bool.false_eq_true, if_false]
        by_cases h3 : s.size > 2000
        · rw [if_pos h3]; constructor
          · intro h; cases h
          · rintro ⟨_, h⟩; omega
        · rw [if_neg h3]
          exact ⟨fun _ => ⟨⟨h0, trivial, fun e => by
            refine Nat.le_antisymm (Nat.not_lt.1 fun h => h1 ⟨e, h⟩) (by omega)⟩, by omega⟩, fun _ => rfl⟩
theorem sEq_self (s : ByteArray) : sEq s s = true := sEq_iff.2 rfl
end Go.Am.Tryd
/- Plain law: NatProducts, NatDivides and NatPowers answer true. -/
namespace Go.Am.Tryd
open Go Go.Am Go.Proofs
set_option linter.unusedSimpArgs false
set_option linter.unusedVariables false
set_option maxRecDepth 100000
variable {K : Nat}
theorem contains_str {l : List ByteArray} {F : ByteArray → Option Bool} {p : ByteArray → Bool} (hl : l.length ≤ 1048576) (hK : 2000000000 < K) (hp : ∀ x ∈ l, F x = some (p x)) : g_slices_ContainsFunc_string_string K l F = some (l.any p) := by
  have key : ∃ r : Int ⊕ Unit, g_slices_IndexFunc_string_string_l0 K l F K 0 = some r ∧ ((r = .inr () ∧ l.any p = false) ∨ ∃ i : Int, 0 ≤ i ∧ r = .inl i ∧ l.any p = true) := by
    refine loopW (fun k (s : Int) => g_slices_IndexFunc_string_string_l0 K l F k s) (fun s => ∃ i : Nat, s = i ∧ i ≤ l.length ∧ (l.take i).any p = false) (fun s => (l.length - s : Int).toNat) _ ?_ (0 : Int) (by omega) ⟨0, rfl, by omega, by simp⟩
    rintro k _ ⟨i, rfl, h0, h1⟩
    by_cases hi : i < l.length
    · have hx : idx l (i : Int) = some l[i] := idx_nat (List.getElem?_eq_getElem hi)
      have hpi := hp l[i] (List.getElem_mem hi)
      have hsn : l.take (i + 1) = l.take i ++ [l[i]] := by rw [List.take_add_one, List.getElem?_eq_getElem hi]; rfl
      cases hc : p l[i] with
      | true =>
        left
        refine ⟨.inl i, ?_, .inr ⟨i, by omega, rfl, List.any_eq_true.2 ⟨l[i], List.getElem_mem hi, hc⟩⟩⟩
        rw [g_slices_IndexFunc_string_string_l0, if_pos (decide_eq_true (by omega)), hx, bsome, hpi, bsome, hc, if_pos rfl]
      | false =>
        right
        refine ⟨(i : Int) + 1, ?_, by omega, i + 1, rfl, by omega, by rw [hsn, List.any_append, h1]; simp [hc]⟩
        rw [g_slices_IndexFunc_string_string_l0, if_pos (decide_eq_true (by omega)), hx, bsome, hpi, bsome, hc, if_neg (by simp), k64 (by omega) (by omega)]
    · left
      have : i = l.length := by omega
      subst this
      rw [List.take_of_length_le (Nat.le_refl _)] at h1
      refine ⟨.inr (), ?_, .inl ⟨rfl, h1⟩⟩
      rw [g_slices_IndexFunc_string_string_l0, if_neg (by simp)]
  obtain ⟨r, h1, h2⟩ := key
  unfold g_slices_ContainsFunc_string_string g_slices_IndexFunc_string_string
  rw [h1]
  rcases h2 with ⟨rfl, h3⟩ | ⟨i, h4, rfl, h3⟩
  · rw [h3]; rfl
  · rw [h3, bindSl, tu1a, bsome, decide_eq_true (by omega)]
theorem long_two {a b : ByteArray} {n : Int} (hK : 2000000000 < K) : g_law_long K n [a, b] = some (decide ((a.size : Int) > n) || decide ((b.size : Int) > n)) := by
  unfold g_law_long
  rw [contains_str (F := fun x => g_law_long_1 K x n) (p := fun x => decide ((x.size : Int) > n)) (by simp) hK (fun x _ => rfl), bsome]
  simp
theorem sEq_f {s t : ByteArray} (h : s ≠ t) : sEq s t = false := by
  cases e : sEq s t with
  | false => rfl
  | true => exact absurd (sEq_iff.1 e) h
/-! ### Powers -/
theorem one_num (hK : 2000000000 < K) : g_nat_Of K 1 = some [1] := by
  obtain ⟨k, rfl⟩ : ∃ k, K = k + 2 := ⟨K - 2, by omega⟩
  unfold g_nat_Of
  have e1 : decide ((1 : Int) > 0) = true := rfl
  have e2 : IntKind.wrap .u32 (Int.tmod 1 1000000000) = 1 := rfl
  have e3 : kwrap .i64 (Int.tdiv 1 1000000000) = 0 := rfl
  have e4 : decide ((0 : Int) > 0) = false := rfl
  rw [g_nat_Of_l0, e1, if_pos rfl, e2, e3, if_pos (by decide), g_nat_Of_l0, e4]
  rfl
end Go.Am.Tryd
/- Plain lemmas: rational numbers, their signs, parts and sizes. -/
namespace Go.Am
set_option linter.unusedSimpArgs false
set_option linter.unusedVariables false
/-- A sign and a size. -/
def sgn (neg : Bool) (n : Nat) : Int := if neg then -(n : Int) else n
theorem sgn_abs (neg : Bool) (n : Nat) : (sgn neg n).natAbs = n := by unfold sgn; split <;> omega
theorem sgn_num (x : Rat) : sgn (decide (x.num < 0)) x.num.natAbs = x.num := by unfold sgn; by_cases h : x.num < 0 <;> simp [h] <;> omega
theorem mk_num (neg : Bool) (n d : Nat) (hd : d ≠ 0) : (mkRat (sgn neg n) d).num.natAbs = n / Nat.gcd n d := by
  rw [Rat.num_mkRat, if_neg hd, sgn_abs, Nat.gcd_comm]
  unfold sgn
  cases neg with
  | false => simp; rfl
  | true =>
    simp only [if_true]
    have h : (Nat.gcd n d : Int) ∣ (n : Int) := Int.natCast_dvd_natCast.2 (Nat.gcd_dvd_left n d)
    rw [Int.neg_ediv_of_dvd h, Int.natAbs_neg]
    rfl
theorem mk_den (neg : Bool) (n d : Nat) (hd : d ≠ 0) : (mkRat (sgn neg n) d).den = d / Nat.gcd n d := by
  rw [Rat.den_mkRat, if_neg hd, sgn_abs, Nat.gcd_comm]
theorem mk_neg (neg : Bool) (n d : Nat) (hd : d ≠ 0) (hn : n ≠ 0) : decide ((mkRat (sgn neg n) d).num < 0) = neg := by
  have h0 : n / Nat.gcd n d ≠ 0 := by
    have := Nat.gcd_pos_of_pos_left d (show 0 < n by omega)
    have h2 := Nat.le_of_dvd (by omega) (Nat.gcd_dvd_left n d)
    have := Nat.div_pos h2 this
    omega
  rw [Rat.num_mkRat, if_neg hd, sgn_abs, Nat.gcd_comm]
  have h : (Nat.gcd n d : Int) ∣ (n : Int) := Int.natCast_dvd_natCast.2 (Nat.gcd_dvd_left n d)
  obtain ⟨q, hq, hq0⟩ : ∃ q : Nat, (n : Int) / (Nat.gcd n d : Int) = (q : Int) ∧ q ≠ 0 := ⟨n / Nat.gcd n d, by simp, h0⟩
  unfold sgn
  cases neg with
  | false => simp only [Bool.false_eq_true, if_false, hq]; exact decide_eq_false (by omega)
  | true => simp only [if_true]; rw [Int.neg_ediv_of_dvd h, hq]; exact decide_eq_true (by omega)
theorem rat_mul (x y : Rat) : x * y = mkRat (sgn (decide (x.num < 0) != decide (y.num < 0)) (x.num.natAbs * y.num.natAbs)) (x.den * y.den) := by
  rw [Rat.mul_def']
  congr 1
  conv => lhs; rw [← sgn_num x, ← sgn_num y]
  generalize x.num.natAbs = a
  generalize y.num.natAbs = b
  unfold sgn
  cases decide (x.num < 0) <;> cases decide (y.num < 0) <;> simp [Int.mul_neg, Int.neg_mul]
theorem sgn_cast (neg : Bool) (n : Nat) : ((sgn neg n : Int) : Rat) = if neg then -(n : Rat) else n := by
  unfold sgn
  cases neg with
  | false => rfl
  | true => simp only [if_true]; rw [Rat.intCast_neg]; rfl
theorem rat_div_aux (a b : Bool) (p q r s : Rat) (e1 : q ≠ 0) (e2 : r ≠ 0) (e3 : s ≠ 0) : (if a then -p else p) / q / ((if b then -r else r) / s) = (if a != b then -(p * s) else p * s) / (q * r) := by
  cases a <;> cases b <;> simp <;> grind
theorem rat_self (x : Rat) : x = ((sgn (decide (x.num < 0)) x.num.natAbs : Int) : Rat) / (x.den : Rat) := by
  rw [sgn_num, ← Rat.mkRat_eq_div, Rat.mkRat_self]
theorem rat_div (x y : Rat) (hy : y ≠ 0) : x / y = mkRat (sgn (decide (x.num < 0) != decide (y.num < 0)) (x.num.natAbs * y.den)) (x.den * y.num.natAbs) := by
  have hyn : y.num ≠ 0 := fun e => hy (Rat.num_eq_zero.1 e)
  rw [Rat.mkRat_eq_div, sgn_cast]
  conv => lhs; rw [rat_self x, rat_self y, sgn_cast, sgn_cast]
  rw [Rat.natCast_mul, Rat.natCast_mul]
  exact rat_div_aux _ _ _ _ _ _ (by simp [x.den_nz]) (by simp; omega) (by simp [y.den_nz])
/-! ### Sizes -/
/-- A number's numerator and denominator have at most N digits. -/
def Dl (x : Rat) (N : Nat) : Prop := x.num.natAbs < 10 ^ N ∧ x.den < 10 ^ N
theorem Dl.mono {x : Rat} {N M : Nat} (h : Dl x N) (hN : N ≤ M) : Dl x M := ⟨Nat.lt_of_lt_of_le h.1 (Nat.pow_le_pow_right (by omega) hN), Nat.lt_of_lt_of_le h.2 (Nat.pow_le_pow_right (by omega) hN)⟩
theorem Dl.mk (neg : Bool) {n d N : Nat} (hd : d ≠ 0) (hn : n < 10 ^ N) (hd2 : d < 10 ^ N) : Dl (mkRat (sgn neg n) d) N := by
  refine ⟨?_, ?_⟩
  · rw [mk_num neg n d hd]; exact Nat.lt_of_le_of_lt (Nat.div_le_self _ _) hn
  · rw [mk_den neg n d hd]; exact Nat.lt_of_le_of_lt (Nat.div_le_self _ _) hd2
theorem mul_lt_pow {a b N M : Nat} (h : a < 10 ^ N) (k : b < 10 ^ M) : a * b < 10 ^ (N + M) := by
  rw [Nat.pow_add]
  exact Nat.mul_lt_mul_of_lt_of_le h (Nat.le_of_lt k) (Nat.pow_pos (by omega))
theorem Dl.mul {x y : Rat} {N M : Nat} (h : Dl x N) (k : Dl y M) : Dl (x * y) (N + M) := by
  rw [rat_mul]
  exact .mk _ (Nat.mul_ne_zero x.den_nz y.den_nz) (mul_lt_pow h.1 k.1) (mul_lt_pow h.2 k.2)
theorem Dl.zero : Dl 0 1 := ⟨by decide, by decide⟩
theorem Dl.one : Dl 1 1 := ⟨by decide, by decide⟩
theorem Dl.div {x y : Rat} {N M : Nat} (h : Dl x N) (k : Dl y M) : Dl (x / y) (N + M + 1) := by
  by_cases hy : y = 0
  · subst hy
    have : x / 0 = 0 := by grind
    rw [this]; exact Dl.zero.mono (by omega)
  · rw [rat_div x y hy]
    have hyn : y.num ≠ 0 := fun e => hy (Rat.num_eq_zero.1 e)
    refine (Dl.mk _ (Nat.mul_ne_zero x.den_nz (by omega)) (mul_lt_pow h.1 k.2) (mul_lt_pow h.2 k.1)).mono (by omega)
theorem int_sgn (a : Int) : a = sgn (decide (a < 0)) a.natAbs := by unfold sgn; by_cases h : a < 0 <;> simp [h] <;> omega
theorem Dl.add {x y : Rat} {N M : Nat} (h : Dl x N) (k : Dl y M) : Dl (x + y) (N + M + 1) := by
  rw [Rat.add_def']
  rw [int_sgn (x.num * y.den + y.num * x.den)]
  have h1 := mul_lt_pow h.1 k.2
  have h2 := mul_lt_pow k.1 h.2
  have h3 : (x.num * (y.den : Int) + y.num * (x.den : Int)).natAbs ≤ x.num.natAbs * y.den + y.num.natAbs * x.den := by
    refine Nat.le_trans (Int.natAbs_add_le _ _) ?_
    rw [Int.natAbs_mul, Int.natAbs_mul]; simp
  rw [Nat.add_comm M N] at h2
  refine .mk _ (Nat.mul_ne_zero x.den_nz y.den_nz) ?_ ?_
  · rw [Nat.pow_succ]; omega
  · have := mul_lt_pow h.2 k.2
    rw [Nat.pow_succ]; omega
theorem Dl.neg {x : Rat} {N : Nat} (h : Dl x N) : Dl (-x) N := ⟨by rw [Rat.neg_num, Int.natAbs_neg]; exact h.1, by rw [Rat.neg_den]; exact h.2⟩
theorem Dl.sub {x y : Rat} {N M : Nat} (h : Dl x N) (k : Dl y M) : Dl (x - y) (N + M + 1) := by
  rw [Rat.sub_eq_add_neg]; exact h.add k.neg
theorem Dl.pos {x : Rat} {N : Nat} (h : Dl x N) : 1 ≤ N := by
  refine Nat.not_lt.1 fun hlt => ?_
  have : N = 0 := by omega
  subst this
  have := h.2
  have := x.den_pos
  simp at *; omega
end Go.Am
/- Plain law: the parts of a rational number's text; its error. -/
namespace Go.Am.Tryd
open Go Go.Am Go.Proofs
set_option linter.unusedSimpArgs false
set_option linter.unusedVariables false
variable {K : Nat}
/-- The parts of a text: a sign, what stands ahead of the first stroke, what stands behind it. -/
structure Sp (s : ByteArray) (neg : Bool) (n : ByteArray) (many : Bool) (d : ByteArray) : Prop where
  eq : bytesOf s = (if neg then [45] else []) ++ (bytesOf n ++ (if many then 47 :: bytesOf d else []))
  no : 47 ∉ bytesOf n
  hd : neg = false → (bytesOf s).head? ≠ some 45
theorem split_uniq {x : Int} : ∀ {l1 l2 r1 r2 : List Int}, l1 ++ r1 = l2 ++ r2 → x ∉ l1 → x ∉ l2 → (r1 = [] ∨ r1.head? = some x) → (r2 = [] ∨ r2.head? = some x) → l1 = l2 ∧ r1 = r2
  | [], [], _, _, h, _, _, _, _ => ⟨rfl, by simpa using h⟩
  | [], b :: l2, r1, r2, h, _, h2, h3, _ => by
    simp only [List.nil_append, List.cons_append] at h
    subst h
    simp at h3
    subst h3
    simp at h2
  | a :: l1, [], r1, r2, h, h1, _, _, h4 => by
    simp only [List.nil_append, List.cons_append] at h
    subst h
    simp at h4
    subst h4
    simp at h1
  | a :: l1, b :: l2, r1, r2, h, h1, h2, h3, h4 => by
    simp only [List.cons_append, List.cons.injEq] at h
    obtain ⟨rfl, h⟩ := h
    obtain ⟨e1, e2⟩ := split_uniq h (fun hx => h1 (by simp [hx])) (fun hx => h2 (by simp [hx])) h3 h4
    exact ⟨by rw [e1], e2⟩
theorem Sp.uniq {s n d n' d' : ByteArray} {neg neg' many many' : Bool} (h : Sp s neg n many d) (k : Sp s neg' n' many' d') : neg = neg' ∧ n = n' ∧ many = many' ∧ (many = true → d = d') := by
  have e1 : neg = neg' := by
    cases neg <;> cases neg'
    · rfl
    · have := h.hd rfl; rw [k.eq] at this; simp at this
    · have := k.hd rfl; rw [h.eq] at this; simp at this
    · rfl
  subst e1
  have e2 := List.append_cancel_left (h.eq.symm.trans k.eq)
  obtain ⟨e3, e4⟩ := split_uniq e2 h.no k.no (by cases many <;> simp) (by cases many' <;> simp)
  refine ⟨rfl, bytesOf_inj e3, ?_⟩
  cases many <;> cases many'
  · exact ⟨rfl, fun h => by cases h⟩
  · simp at e4
  · simp at e4
  · simp at e4; exact ⟨rfl, fun _ => bytesOf_inj e4⟩
theorem Sp.size {s n d : ByteArray} {neg many : Bool} (h : Sp s neg n many d) : n.size ≤ s.size ∧ (many = true → d.size ≤ s.size) := by
  have := congrArg List.length h.eq
  simp only [List.length_append, bytesOf_length] at this
  refine ⟨by omega, fun hm => ?_⟩
  subst hm
  simp only [if_true, List.length_cons, bytesOf_length] at this
  omega
theorem extract_bytes (s : ByteArray) {i j : Nat} (h : i ≤ j) (hj : j ≤ s.size) : bytesOf (s.extract i j) = ((bytesOf s).drop i).take (j - i) ∧ (s.extract i j).size = j - i := by
  have h1 := bytesOf_extract s i j
  refine ⟨h1, ?_⟩
  rw [← bytesOf_length, h1, List.length_take, List.length_drop, bytesOf_length]; omega
theorem cutPrefix_ok (K : Nat) (s : ByteArray) : ∃ s1 neg, g_strings_CutPrefix K s ⟨#[45]⟩ = some (s1, neg) ∧ bytesOf s = (if neg then [45] else []) ++ bytesOf s1 ∧ (neg = false → (bytesOf s).head? ≠ some 45) ∧ s1.size ≤ s.size := by
  unfold g_strings_CutPrefix g_internal_stringslite_CutPrefix g_internal_stringslite_HasPrefix
  have hn := bytesOf_length s
  have e1 : ((⟨#[45]⟩ : ByteArray).size : Int) = 1 := rfl
  rw [e1]
  by_cases h0 : s.size = 0
  · have hb : bytesOf s = [] := List.length_eq_zero_iff.1 (by omega)
    refine ⟨s, false, ?_, by simp, fun _ => by rw [hb]; simp, Nat.le_refl _⟩
    rw [h0]
    rfl
  · obtain ⟨c, l, hc⟩ : ∃ c l, bytesOf s = c :: l := by
      cases hb : bytesOf s with
      | nil => rw [hb] at hn; simp at hn; omega
      | cons c l => exact ⟨c, l, rfl⟩
    have hx : ssl s 0 1 = some (s.extract 0 1) := by rw [sslI (by omega) (by omega) (by omega)]; rfl
    have hxb : bytesOf (s.extract 0 1) = [c] := by rw [(extract_bytes s (by omega) (by omega)).1, hc]; rfl
    rw [decide_eq_true (by omega), if_pos rfl, hx, bsome, bsome, tu1a, bsome]
    by_cases h45 : c = 45
    · have he : sEq (s.extract 0 1) ⟨#[45]⟩ = true := sEq_iff.2 (bytesOf_inj (by rw [hxb, h45]; rfl))
      obtain ⟨t, t1, t2, t3⟩ := ssl_tail hc
      refine ⟨t, true, ?_, by rw [hc, t2, h45]; rfl, fun h => by (cases h), by rw [hc] at hn; simp at hn; omega⟩
      rw [he]
      simp only [Bool.not_true, Bool.false_eq_true, if_false]
      rw [t1, bsome, bsome]
    · have he : sEq (s.extract 0 1) ⟨#[45]⟩ = false := sEq_f (fun e => by
        have := congrArg bytesOf e
        rw [hxb] at this
        have e2 : bytesOf (⟨#[45]⟩ : ByteArray) = [45] := rfl
        rw [e2] at this
        simp at this; exact h45 this)
      refine ⟨s, false, ?_, by simp, fun _ => by rw [hc]; simpa using h45, Nat.le_refl _⟩
      rw [he]
      rfl
theorem indexByte_spec (c : UInt8) : ∀ (l : List UInt8), (Lib.indexByte l c = -1 ∧ c ∉ l) ∨ ∃ i : Nat, Lib.indexByte l c = i ∧ i < l.length ∧ l[i]? = some c ∧ c ∉ l.take i
  | [] => .inl ⟨rfl, by simp⟩
  | b :: l => by
    rw [Lib.indexByte]
    by_cases hb : b = c
    · subst hb; exact .inr ⟨0, by simp, by simp, by simp, by simp⟩
    · have hb' : (b == c) = false := by simpa using hb
      rw [hb']
      rcases indexByte_spec c l with ⟨h1, h2⟩ | ⟨i, h1, h2, h3, h4⟩
      · refine .inl ⟨by rw [h1]; rfl, ?_⟩
        simp only [List.mem_cons, not_or]
        exact ⟨fun e => hb e.symm, h2⟩
      · refine .inr ⟨i + 1, ?_, by simp; omega, by simpa using h3, ?_⟩
        · rw [h1]
          have : ((i : Int) == -1) = false := by rw [beq_eq_false_iff_ne]; omega
          rw [this]
          simp
        · rw [List.take_succ_cons]
          simp only [List.mem_cons, not_or]
          exact ⟨fun e => hb e.symm, h4⟩
theorem mem_bytes {c : UInt8} {l : List UInt8} (h : ((c.toNat : Nat) : Int) ∈ l.map (fun b => (b.toNat : Int))) : c ∈ l := by
  rw [List.mem_map] at h
  obtain ⟨b, hb, he⟩ := h
  have : b = c := UInt8.toNat_inj.1 (by omega)
  subst this; exact hb
theorem cut_ok {s : ByteArray} (hs : s.size ≤ 1048576) : ∃ n d many, g_strings_Cut K s ⟨#[47]⟩ = some (n, d, many) ∧ bytesOf s = bytesOf n ++ (if many then 47 :: bytesOf d else []) ∧ 47 ∉ bytesOf n ∧ (many = false → d = ⟨#[]⟩) := by
  have hn := bytesOf_length s
  have hx : g_internal_stringslite_Index K s ⟨#[47]⟩ = some (Lib.indexByte s.data.toList 47) := by
    unfold g_internal_stringslite_Index g_internal_stringslite_IndexByte
    have e1 : (((⟨#[47]⟩ : ByteArray).size : Int) == 0) = false := rfl
    have e2 : (((⟨#[47]⟩ : ByteArray).size : Int) == 1) = true := rfl
    have e3 : bidx (⟨#[47]⟩ : ByteArray) 0 = some 47 := rfl
    rw [e1, e2, e3]
    simp only [Bool.false_eq_true, if_false, bsome, tu1a, if_true]
    by_cases he : sEq ⟨#[47]⟩ s = true
    · rw [he, if_pos rfl]
      rw [sEq_iff] at he
      subst he
      rfl
    · rw [if_neg he]
      rfl
  unfold g_strings_Cut g_internal_stringslite_Cut
  rw [hx, bsome]
  rcases indexByte_spec 47 s.data.toList with ⟨h1, h2⟩ | ⟨i, h1, h2, h3, h4⟩
  · refine ⟨s, ⟨#[]⟩, false, by rw [h1]; rfl, by simp, fun h => h2 (mem_bytes h), fun _ => rfl⟩
  · rw [Array.length_toList] at h2
    have h2' : i < s.size := h2
    have ea := extract_bytes s (i := 0) (j := i) (by omega) (by omega)
    have eb := extract_bytes s (i := i + 1) (j := s.size) (by omega) (by omega)
    refine ⟨s.extract 0 i, s.extract (i + 1) s.size, true, ?_, ?_, ?_, fun h => by cases h⟩
    · have e1 : ((⟨#[47]⟩ : ByteArray).size : Int) = 1 := rfl
      have t0 : Int.toNat 0 = 0 := rfl
      have t1 : ((i : Int) + 1).toNat = i + 1 := by omega
      rw [h1, if_pos (decide_eq_true (by omega)), sslI (by omega) (by omega) (by omega), bsome, e1, k64 (by omega) (by omega), sslI (by omega) (by omega) (by omega), bsome, bsome, t1]
      rfl
    · rw [ea.1, eb.1]
      have h5 : (bytesOf s)[i]? = some 47 := by unfold bytesOf; rw [List.getElem?_map, h3]; rfl
      have h6 : i < (bytesOf s).length := by omega
      rw [List.getElem?_eq_getElem h6] at h5
      simp only [if_true, List.drop_zero, Nat.sub_zero]
      rw [List.take_of_length_le (l := (bytesOf s).drop (i + 1)) (by rw [List.length_drop]; omega)]
      conv => lhs; rw [← List.take_append_drop i (bytesOf s), List.drop_eq_getElem_cons h6]
      rw [Option.some.inj h5]
    · rw [ea.1, List.drop_zero, Nat.sub_zero]
      intro h
      unfold bytesOf at h
      rw [← List.map_take] at h
      exact h4 (mem_bytes h)
/-- Every text has parts. -/
theorem parts_of (K : Nat) {s : ByteArray} (hs : s.size ≤ 1048576) : ∃ s1 neg n d many, g_strings_CutPrefix K s ⟨#[45]⟩ = some (s1, neg) ∧ g_strings_Cut K s1 ⟨#[47]⟩ = some (n, d, many) ∧ Sp s neg n many d ∧ bytesOf s = (if neg then [45] else []) ++ bytesOf s1 ∧ (many = false → d = ⟨#[]⟩) := by
  obtain ⟨s1, neg, h1, h2, h3, h4⟩ := cutPrefix_ok K s
  obtain ⟨n, d, many, c1, c2, c3, c4⟩ := cut_ok (K := K) (s := s1) (by omega)
  exact ⟨s1, neg, n, d, many, h1, c1, ⟨by rw [h2, c2], c3, h3⟩, h2, c4⟩
/-- The error of a rational number's text, by its parts. -/
def ratS (neg : Bool) (n : ByteArray) (many : Bool) (d : ByteArray) : Int :=
  if natE n = 5 ∨ (many = true ∧ natE d = 5) ∨ (neg = true ∧ n = ⟨#[48]⟩) then 5 else if natE n ≠ 0 ∨ (many = true ∧ natE d ≠ 0) then 2 else
  if many = true ∧ (d = ⟨#[48]⟩ ∨ d = ⟨#[49]⟩ ∨ Nat.gcd (numT n).toNat (numT d).toNat ≠ 1) then 3 else 0
theorem sEq_dec (a b : ByteArray) : sEq a b = decide (a = b) := by
  by_cases h : a = b
  · rw [decide_eq_true h]; exact sEq_iff.2 h
  · rw [decide_eq_false h]; exact sEq_f h
theorem cmp1_ne (G : Nat) : ((if (G : Int) < 1 then (-1 : Int) else if (G : Int) = 1 then 0 else 1) != 0) = decide (G ≠ 1) := by
  by_cases hG : G = 1
  · subst hG; rfl
  · rw [decide_eq_true hG]
    by_cases h0 : (G : Int) < 1
    · rw [if_pos h0]; rfl
    · rw [if_neg h0, if_neg (by omega)]; rfl
theorem natE48 : natE ⟨#[48]⟩ = 0 := (natE_ok _).2 ⟨canT_zero, by decide⟩
theorem check_rat {s n d : ByteArray} {neg many : Bool} (hs : s.size ≤ 1048576) (hK : 2000000000 < K) (h : Sp s neg n many d) : g_rat_Check K s = some (ratS neg n many d) := by
  obtain ⟨s1, neg', n', d', many', c1, c2, c3, c4, c5⟩ := parts_of K hs
  obtain ⟨rfl, rfl, rfl, hd⟩ := h.uniq c3
  have hsz := h.size
  unfold g_rat_Check ratS
  rw [c1, bsome, c2, bsome]
  dsimp only
  rw [check_prog (by omega) (by omega), bsome]
  cases many with
  | false =>
    simp only [Bool.false_eq_true, if_false, bsome, tu1a, false_and, false_or, or_false]
    by_cases e5 : natE n = 5
    · simp [e5, bsome, tu1a]
    · have e5' : (natE n == 5) = false := by rw [beq_eq_false_iff_ne]; exact e5
      have e05 : ((0 : Int) == 5) = false := rfl
      rw [e5', e05]
      cases neg <;> by_cases e0 : natE n = 0 <;> by_cases en : n = ⟨#[48]⟩ <;> simp [e0, e5, en, sEq_dec, bsome, tu1a, natE48]
  | true =>
    have hdd := hd rfl
    subst hdd
    simp only [if_true, true_and]
    rw [check_prog (by have := hsz.2 rfl; omega) (by have := hsz.2 rfl; omega)]
    simp only [bsome, tu1a]
    by_cases e5 : natE n = 5
    · simp [e5, bsome, tu1a]
    · have e5' : (natE n == 5) = false := by rw [beq_eq_false_iff_ne]; exact e5
      by_cases f5 : natE d = 5
      · simp [e5, f5, bsome, tu1a]
      · have f5' : (natE d == 5) = false := by rw [beq_eq_false_iff_ne]; exact f5
        have hneg : (if neg = true then some (sEq n (⟨#[48]⟩ : ByteArray)) else some false) = some (decide (neg = true ∧ n = ⟨#[48]⟩)) := by
          cases neg <;> simp [sEq_dec]
        rw [e5', f5', hneg]
        simp only [Bool.false_eq_true, if_false, bsome, tu1a, e5, f5, false_or]
        by_cases hz : neg = true ∧ n = ⟨#[48]⟩
        · rw [decide_eq_true hz, if_pos rfl, if_pos hz]
        · rw [decide_eq_false hz, if_neg (by simp), if_neg hz]
          by_cases e0 : natE n = 0
          · by_cases f0 : natE d = 0
            · obtain ⟨cn, ln⟩ := (natE_ok n).1 e0
              obtain ⟨cd, ld⟩ := (natE_ok d).1 f0
              obtain ⟨x, x1, x2, x3⟩ := read_ok (K := K) (s := n) (by omega) hK cn.2.1
              obtain ⟨y, y1, y2, y3⟩ := read_ok (K := K) (s := d) (by omega) hK cd.2.1
              have nn := numT_nonneg cn.2.1
              have nd := numT_nonneg cd.2.1
              obtain ⟨g, g1, g2⟩ := ngcd_ok (K := K) (x := x) (y := y) (a := (numT n).toNat) (b := (numT d).toNat) (by omega) (by omega) hK (by rw [Int.toNat_of_nonneg nn]; exact x2) (by rw [Int.toNat_of_nonneg nd]; exact y2)
              have gl : g.length ≤ 1000000 := by
                by_cases h0 : (numT d).toNat = 0
                · rw [h0, Nat.gcd_zero_right, Int.toNat_of_nonneg nn] at g2
                  rw [g2.inj x2]; omega
                · have := len_mono g2 y2 (by have := Nat.gcd_le_right (n := (numT d).toNat) (numT n).toNat (by omega); omega)
                  omega
              have hc := ncmp_ok (K := K) (x := g) (y := [1]) (by omega) (by simp) hK g2 (.one (by omega) (by omega))
              have hcv : ((if ((Nat.gcd (numT n).toNat (numT d).toNat : Nat) : Int) < 1 then (-1 : Int) else if ((Nat.gcd (numT n).toNat (numT d).toNat : Nat) : Int) = 1 then 0 else 1) != 0) = decide (Nat.gcd (numT n).toNat (numT d).toNat ≠ 1) := by
                exact cmp1_ne _
              rw [e0, f0]
              simp only [bne_self_eq_false, Bool.false_eq_true, if_false, bsome, tu1a, ne_eq, not_true, or_self, x1, y1, g1, one_num hK, hc, hcv, sEq_dec]
              by_cases d0 : d = ⟨#[48]⟩
              · simp [d0, bsome, tu1a]
              · by_cases d1 : d = ⟨#[49]⟩
                · simp [d1, bsome, tu1a]
                · by_cases hG : Nat.gcd (numT n).toNat (numT d).toNat = 1 <;> simp [d0, d1, hG, bsome, tu1a]
            · simp [e0, f0, bsome, tu1a]
          · simp [e0, bsome, tu1a]
end Go.Am.Tryd
