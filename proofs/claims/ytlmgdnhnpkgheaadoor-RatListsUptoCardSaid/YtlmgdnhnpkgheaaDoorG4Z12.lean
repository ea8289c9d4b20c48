/- Typed functions with the same answers as the program's, and the walks that show it. -/
import Derived.Test.YtlmgdnhnpkgheaaDoorG2Z12
import Derived.Test.YtlmgdnhnpkgheaaDoorG3Z12
namespace Go.Am.Tryd
open Go Go.Am Go.Proofs
set_option linter.unusedVariables false
set_option linter.unusedSimpArgs false
set_option maxRecDepth 10000

def g_rat_Q_Sub (K : Nat) (p0 : Q) (p1 : Q) : Option Q := ((g_rat_Q_Neg K p1).bind fun x27 => ((g_rat_Q_Add K p0 x27).bind fun x40 => some x40))
set_option maxHeartbeats 4000000 in
theorem g_rat_Q_Sub_ok (K : Nat) {G : GM} {H : AH} {L : List Pc} (v0 : List Value) (p0 : Q) (hp0 : T_Q.rep G v0 p0) (v1 : List Value) (p1 : Q) (hp1 : T_Q.rep G v1 p1) (O : Ow G H (L)) (r : Q) (h : g_rat_Q_Sub K p0 p1 = some r) :
    CR Tryd.prog 88 [.agg (List.toArray v0), .agg (List.toArray v1)] G H (L) (fun v G' _ => ∃ (w0 : List Value), v = .agg (List.toArray w0) ∧ T_Q.rep G' w0 r) := by
 unfold g_rat_Q_Sub at h
 refine CR.of (calls_of_AW (n := 9) (fn := Tryd.f88) (R := fun v H' => ∃ G', Ow G' H' (L) ∧ G.le G' ∧ ∃ (w0 : List Value), v = .agg (List.toArray w0) ∧ T_Q.rep G' w0 r) (by kernel_rfl) rfl rfl ?_)
 refine .seq (.region (W.lo rfl rfl (Lo.box (r := T_Q) (x0 := p0) (v := (.agg (List.toArray v0))) rfl rfl hp0 O) ?_))
 rintro v4 H5 ⟨b2, rfl, O1, sm3⟩
 refine W.lo rfl rfl (Lo.box (r := T_Q) (x0 := p1) (v := (.agg (List.toArray v1))) rfl rfl hp1 O1) ?_
 rintro v9 H10 ⟨b7, rfl, O6, sm8⟩
 refine W.lo rfl rfl (Lo.alloc (r := T_Q) (x0 := (Q.mk false ([] : List Int) ([] : List Int))) ze91 (by kernel_rfl) z_Q O6) ?_
 rintro v14 H15 ⟨b12, rfl, O11, sm13⟩
 refine .nil (.seq (.draw2 (M := [0, 0, 2, 7, 15]) mixed (by kernel_rfl) (by kernel_rfl) fun H16 N20 x17 F19 => ?_))
 have O18 := O11.ext x17
 obtain ⟨c21, p22, f23⟩ := (O18.atVar (j := 2) rfl)
 refine D2.loadA' (cs := c21) rfl rfl ag91 sz91 (pt_px rfl p22) (RT.len _ f23) fa_nil ?_
 obtain ⟨c24, p25, f26⟩ := (O18.atVar (j := 1) rfl)
 refine D2.loadA' (cs := c24) rfl rfl ag91 sz91 (pt_px rfl p25) (RT.len _ f26) fa_nil ?_
 obtain ⟨x27, i28, h29⟩ := bd_inv h
 refine D2.lo rfl rfl (Lo.callP (ps := []) (ps' := []) rfl (fn := Tryd.f90) (by kernel_rfl) rfl (mc rfl mn) O18 (fun L' O' => g_rat_Q_Neg_ok K c24 p1 f26 O' _ i28)) ?_ fa_nil ?_ ?_
 ·rintro v38 H39 ⟨G30, O31, s32, sm37, ⟨c34, rfl, f35⟩⟩; exact (faR1 (.inl (by decide)) (faR1 (.inr (sm37 _ (Or.inr ⟨2, _, rfl, List.mem_singleton.2 rfl⟩))) fa_nil))
 ·rintro v38 H39 ⟨G30, O31, s32, sm37, ⟨c34, rfl, f35⟩⟩; exact fa_nil
 rintro v38 H39 ⟨G30, O31, s32, sm37, ⟨c34, rfl, f35⟩⟩
 replace O31 : Ow G30 H39 (eVar b12 91 T_Q (Q.mk false ([] : List Int) ([] : List Int)) :: eVar b7 91 T_Q p1 :: eVar b2 91 T_Q p0 :: L) := O31
 obtain ⟨x40, i41, h42⟩ := bd_inv h29
 refine D2.lo rfl rfl (Lo.callP (ps := []) (ps' := []) rfl (fn := Tryd.f87) (by kernel_rfl) rfl (mc rfl (mc rfl mn)) O31 (fun L' O' => g_rat_Q_Add_ok K c21 p0 (RT.mono _ s32 f23) c34 x27 f35 O' _ i41)) ?_ (faL_bit (by decide) fa_nil) ?_ ?_
 ·rintro v51 H52 ⟨G43, O44, s45, sm50, ⟨c47, rfl, f48⟩⟩; exact (faR1 (.inl (by decide)) (faR1 (.inl (by decide)) fa_nil))
 ·rintro v51 H52 ⟨G43, O44, s45, sm50, ⟨c47, rfl, f48⟩⟩; exact fa_nil
 rintro v51 H52 ⟨G43, O44, s45, sm50, ⟨c47, rfl, f48⟩⟩
 replace O44 : Ow G43 H52 (eVar b12 91 T_Q (Q.mk false ([] : List Int) ([] : List Int)) :: eVar b7 91 T_Q p1 :: eVar b2 91 T_Q p0 :: L) := O44
 refine D2.lo rfl rfl (Lo.storeVar (j := 0) (s := T_Q) (y0 := x40) (v := (.agg (List.toArray c47))) (o := 0) rfl ((Put.at (Put.self _) _ _)) rfl sz91 rfl (by omega) rfl f48 O44) ?_ (faL_bit (by decide) (faL_bit (by decide) fa_nil)) ?_ ?_
 ·rintro v55 H56 ⟨O53, sm54⟩; exact (faR1 (.inl (by decide)) (faR1 (.inl (by decide)) fa_nil))
 ·rintro v55 H56 ⟨O53, sm54⟩; exact fa_nil
 rintro v55 H56 ⟨O53, sm54⟩
 replace O53 : Ow G43 H56 (eVar b12 91 T_Q x40 :: eVar b7 91 T_Q p1 :: eVar b2 91 T_Q p0 :: L) := O53
 refine .nil (.ret ?_)
 obtain ⟨c57, p58, f59⟩ := (O53.atVar (j := 0) rfl)
 have O60 : Ow G43 H56 (eVar b7 91 T_Q p1 :: eVar b2 91 T_Q p0 :: L) := O53.drop 0
 have O61 : Ow G43 H56 (eVar b2 91 T_Q p0 :: L) := O60.drop 0
 have O62 : Ow G43 H56 (L) := O61.drop 0
 obtain rfl := Option.some.inj h42
 refine ret1R (P := Tryd.prog) (fn := Tryd.f88) (n := 9) (R := fun v H' => ∃ G', Ow G' H' (L) ∧ G.le G' ∧ ∃ (w0 : List Value), v = .agg (List.toArray w0) ∧ T_Q.rep G' w0 x40) (v1 := (.agg (List.toArray c57))) (by rfl) (rr_cellA (p := (.pointer (some ⟨b12, 0, none⟩))) (by rfl) ag91 sz91 (by exact rfl) p58 (RT.len _ f59)) ?_
 exact ⟨_, O62, (GM.le.trans s32 s45), c57, rfl, f59⟩
def g_rat_Sub (K : Nat) (p0 : ByteArray) (p1 : ByteArray) : Option (ByteArray × Int) := ((g_rat_two K p0 p1 (fun x => g_rat_Q_Sub K x.1 x.2)).bind fun x5 => some (x5.1, x5.2))
set_option maxHeartbeats 4000000 in
theorem g_rat_Sub_ok (K : Nat) {G : GM} {H : AH} {L : List Pc} (p0 : ByteArray) (p1 : ByteArray) (O : Ow G H (L)) (r : ByteArray × Int) (h : g_rat_Sub K p0 p1 = some r) :
    CR Tryd.prog 40 [(.string p0), (.string p1)] G H (L) (fun v G' _ => v = .tuple #[.string r.1, .int .i64 r.2]) := by
 unfold g_rat_Sub at h
 refine CR.of (calls_of_AW (n := 11) (fn := Tryd.f40) (R := fun v H' => ∃ G', Ow G' H' (L) ∧ G.le G' ∧ v = .tuple #[.string r.1, .int .i64 r.2]) (by kernel_rfl) rfl rfl ?_)
 refine .seq (.region (W.q1 (.string (⟨#[]⟩ : ByteArray)) rfl (W.q1 (.int .i64 0) rfl (.nil (.seq (.region ?_))))))
 refine W.q2 (.string p0) rfl (W.q2 (.string p1) rfl ?_)
 obtain ⟨x5, i6, h7⟩ := bd_inv h
 refine W.lo rfl rfl (Lo.callP (ps := []) (ps' := []) rfl (fn := Tryd.f86) (by kernel_rfl) rfl (mc rfl (mc rfl (mc rfl mn))) O (fun L' O' => g_rat_two_ok K p0 p1 (.func (.func 88) #[] #[]) (fun x => g_rat_Q_Sub K x.1 x.2) ⟨88, _, _, Tryd.f88, rfl, by kernel_rfl, rfl, fun G1 H L vs x r hG O hA hF => by obtain ⟨w1, w3, rfl, f2, f4⟩ := hA; exact g_rat_Q_Sub_ok K w1 x.1 f2 w3 x.2 f4 O _ hF⟩ O' _ i6)) ?_
 rintro v14 H15 ⟨G8, O9, s10, sm13, rfl⟩
 replace O9 : Ow G8 H15 (L) := O9
 refine W.pure (v := (.string x5.1)) rfl rfl (v_extract (oo rfl rfl) rfl) (W.pure (v := (.int .i64 x5.2)) rfl rfl (v_extract (oo rfl rfl) rfl) (W.q1 (.string x5.1) rfl (W.q1 (.int .i64 x5.2) rfl (.nil (.ret ?_)))))
 obtain rfl := Option.some.inj h7
 refine ret2R (P := Tryd.prog) (fn := Tryd.f40) (n := 11) (R := fun v H' => ∃ G', Ow G' H' (L) ∧ G.le G' ∧ v = .tuple #[.string (x5.1, x5.2).1, .int .i64 (x5.1, x5.2).2]) (v1 := (.string x5.1)) (v2 := (.int .i64 x5.2)) (by rfl) (rr_tmp (by rfl) (by exact rfl)) (rr_tmp (by rfl) (by exact rfl)) ?_
 exact ⟨_, O9, s10, rfl⟩
def g_rat_Q_Mul (K : Nat) (p0 : Q) (p1 : Q) : Option Q := (Option.bind ((if ((List.length p0.num : Int) == 0) = true then some true else some ((List.length p1.num : Int) == 0))) (tu1 fun x29 => (if x29 = true then some (Q.mk false ([] : List Int) ([] : List Int)) else ((g_nat_N_Mul K p0.num p1.num).bind fun x66 => ((g_rat_Q_whole K p0).bind fun x82 => ((g_rat_Q_whole K p1).bind fun x98 => ((g_nat_N_Mul K x82 x98).bind fun x111 => ((g_rat_low K (!(p0.neg == p1.neg)) x66 x111).bind fun x132 => some x132))))))))
set_option maxHeartbeats 4000000 in
theorem g_rat_Q_Mul_ok (K : Nat) {G : GM} {H : AH} {L : List Pc} (v0 : List Value) (p0 : Q) (hp0 : T_Q.rep G v0 p0) (v1 : List Value) (p1 : Q) (hp1 : T_Q.rep G v1 p1) (O : Ow G H (L)) (r : Q) (h : g_rat_Q_Mul K p0 p1 = some r) :
    CR Tryd.prog 92 [.agg (List.toArray v0), .agg (List.toArray v1)] G H (L) (fun v G' _ => ∃ (w0 : List Value), v = .agg (List.toArray w0) ∧ T_Q.rep G' w0 r) := by
 unfold g_rat_Q_Mul at h
 refine CR.of (calls_of_AW (n := 32) (fn := Tryd.f92) (R := fun v H' => ∃ G', Ow G' H' (L) ∧ G.le G' ∧ ∃ (w0 : List Value), v = .agg (List.toArray w0) ∧ T_Q.rep G' w0 r) (by kernel_rfl) rfl rfl ?_)
 refine .seq (.region (W.lo rfl rfl (Lo.box (r := T_Q) (x0 := p0) (v := (.agg (List.toArray v0))) rfl rfl hp0 O) ?_))
 rintro v4 H5 ⟨b2, rfl, O1, sm3⟩
 refine W.lo rfl rfl (Lo.box (r := T_Q) (x0 := p1) (v := (.agg (List.toArray v1))) rfl rfl hp1 O1) ?_
 rintro v9 H10 ⟨b7, rfl, O6, sm8⟩
 refine W.lo rfl rfl (Lo.alloc (r := T_Q) (x0 := (Q.mk false ([] : List Int) ([] : List Int))) ze91 (by kernel_rfl) z_Q O6) ?_
 rintro v14 H15 ⟨b12, rfl, O11, sm13⟩
 refine .nil (.seq (.seq ?_))
 obtain ⟨q16, h17, h18⟩ := bd_inv h
 refine AW.midT (fun σ' H' => ∃ (y1 : Bool) (G' : GM), y1 = q16 ∧ Ow G' H' (eVar b12 91 T_Q (Q.mk false ([] : List Int) ([] : List Int)) :: eVar b7 91 T_Q p1 :: eVar b2 91 T_Q p0 :: L) ∧ GM.le G G' ∧ σ' 14 = .bool y1) ?_ ?_
 ·refine .region (W.pure (v := (padd (.pointer (some ⟨b2, 0, none⟩)) 1)) rfl rfl (v_fldA fl91_1 (oo rfl rfl) (O11.atVar (j := 2) rfl)) ?_)
  obtain ⟨w19, p20, f21⟩ := At.sl (At.proj (O11.atVar (j := 2) rfl) p_Q_num)
  refine W.load1 (v := w19) (r := []) rfl rfl ag64 (pt_px rfl p20) (W.pure (v := (.int .i64 (List.length p0.num : Int))) rfl rfl (len_sl (oo rfl rfl) (sl_len f21) (elemT_inv el64)) (W.q3 (.bool ((List.length p0.num : Int) == 0)) rfl rfl (W.q2 (.bool ((List.length p0.num : Int) == 0)) rfl (W.splitAt (t := 9) (b := ((List.length p0.num : Int) == 0)) rfl (fun g22 gv23 => ?_) (fun g22 gv23 => ?_)))))
  ·have h24 := pos_inv g22 h17
   refine W.q6 rfl gv23 (W.q6 rfl gv23 (W.q6 rfl gv23 (W.q6 rfl gv23 (W.q4 (.bool true) gv23 rfl (.nil ?_)))))
   obtain rfl := Option.some.inj h24
   exact ⟨true, _, rfl, O11, (GM.le.refl _), rfl⟩
  have h25 := neg_b g22 h17
  refine W.pure (v := (padd (.pointer (some ⟨b7, 0, none⟩)) 1)) (gk rfl rfl gv23 rfl) rfl (v_fldA fl91_1 (oo rfl rfl) (O11.atVar (j := 1) rfl)) ?_
  obtain ⟨w26, p27, f28⟩ := At.sl (At.proj (O11.atVar (j := 1) rfl) p_Q_num)
  refine W.load1 (v := w26) (r := []) (gk rfl rfl gv23 rfl) rfl ag64 (pt_px rfl p27) (W.pure (v := (.int .i64 (List.length p1.num : Int))) (gk rfl rfl gv23 rfl) rfl (len_sl (oo rfl rfl) (sl_len f28) (elemT_inv el64)) (W.q3 (hg := gk rfl rfl gv23 rfl) (.bool ((List.length p1.num : Int) == 0)) rfl rfl (W.q5 (.bool ((List.length p1.num : Int) == 0)) gv23 rfl (.nil ?_))))
  obtain rfl := Option.some.inj h25
  exact ⟨((List.length p1.num : Int) == 0), _, rfl, O11, (GM.le.refl _), rfl⟩
 rintro σ30 H31 fr32 ⟨x29, G33, rfl, O34, s35, t37⟩
 have h38 := tu1_inv h18
 refine .cond (b := x29) rfl t37 (fun g39 => ?_) (fun g39 => ?_)
 ·have h40 := pos_inv g39 h38
  refine .seq (.region ?_)
  obtain ⟨c41, e43, f42⟩ := bd_Q_
  refine W.pure (v := .agg (List.toArray c41)) rfl rfl (e43 (opndP_oo rfl qn')) (W.lo rfl rfl (Lo.storeVar (j := 0) (s := T_Q) (y0 := (Q.mk false ([] : List Int) ([] : List Int))) (v := (.agg (List.toArray c41))) (o := 0) rfl ((Put.at (Put.self _) _ _)) rfl sz91 ((fr32 4 rfl).trans rfl) (by omega) rfl f42 O34) ?_)
  rintro v46 H47 ⟨O44, sm45⟩
  replace O44 : Ow G33 H47 (eVar b12 91 T_Q (Q.mk false ([] : List Int) ([] : List Int)) :: eVar b7 91 T_Q p1 :: eVar b2 91 T_Q p0 :: L) := O44
  refine .nil (.ret ?_)
  obtain ⟨c48, p49, f50⟩ := (O44.atVar (j := 0) rfl)
  have O51 : Ow G33 H47 (eVar b7 91 T_Q p1 :: eVar b2 91 T_Q p0 :: L) := O44.drop 0
  have O52 : Ow G33 H47 (eVar b2 91 T_Q p0 :: L) := O51.drop 0
  have O53 : Ow G33 H47 (L) := O52.drop 0
  obtain rfl := Option.some.inj h40
  refine ret1R (P := Tryd.prog) (fn := Tryd.f92) (n := 32) (R := fun v H' => ∃ G', Ow G' H' (L) ∧ G.le G' ∧ ∃ (w0 : List Value), v = .agg (List.toArray w0) ∧ T_Q.rep G' w0 (Q.mk false ([] : List Int) ([] : List Int))) (v1 := (.agg (List.toArray c48))) (by rfl) (rr_cellA (p := (.pointer (some ⟨b12, 0, none⟩))) (by rfl) ag91 sz91 (by exact ((fr32 4 rfl).trans rfl)) p49 (RT.len _ f50)) ?_
  exact ⟨_, O53, s35, c48, rfl, f50⟩
 have h54 := neg_b g39 h38
 refine .skip (.seq (.draw2 (M := [0, 1, 0, 4, 15, 0, 32, 0, 128, 480, 0, 2016, 0, 8160, 16352, 32767, 65535]) mixed (by kernel_rfl) (by kernel_rfl) fun H55 N59 x56 F58 => ?_))
 have O57 := O34.ext x56
 refine D2.pure (v := (padd (.pointer (some ⟨b2, 0, none⟩)) 0)) rfl rfl (v_fldA fl91_0 (oo rfl ((fr32 2 rfl).trans rfl)) (O57.atVar (j := 2) rfl)) (D2.load1' (v := (.bool p0.neg)) (r := []) rfl rfl ag4 (pt_px rfl (At.bool (At.proj (O57.atVar (j := 2) rfl) p_Q_neg))) fa_nil (D2.pure (v := (padd (.pointer (some ⟨b7, 0, none⟩)) 0)) rfl rfl (v_fldA fl91_0 (oo rfl ((fr32 3 rfl).trans rfl)) (O57.atVar (j := 1) rfl)) (D2.load1' (v := (.bool p1.neg)) (r := []) rfl rfl ag4 (pt_px rfl (At.bool (At.proj (O57.atVar (j := 1) rfl) p_Q_neg))) fa_nil (D2.pure (v := (.bool (!(p0.neg == p1.neg)))) rfl rfl (bool_neq (oo rfl rfl) (oo rfl rfl) un4) (D2.pure (v := (padd (.pointer (some ⟨b2, 0, none⟩)) 1)) rfl rfl (v_fldA fl91_1 (oo rfl ((fr32 2 rfl).trans rfl)) (O57.atVar (j := 2) rfl)) ?_)))))
 obtain ⟨w60, p61, f62⟩ := At.sl (At.proj (O57.atVar (j := 2) rfl) p_Q_num)
 refine D2.load1' (v := w60) (r := []) rfl rfl ag64 (pt_px rfl p61) fa_nil (D2.pure (v := (padd (.pointer (some ⟨b7, 0, none⟩)) 1)) rfl rfl (v_fldA fl91_1 (oo rfl ((fr32 3 rfl).trans rfl)) (O57.atVar (j := 1) rfl)) ?_)
 obtain ⟨w63, p64, f65⟩ := At.sl (At.proj (O57.atVar (j := 1) rfl) p_Q_num)
 refine D2.load1' (v := w63) (r := []) rfl rfl ag64 (pt_px rfl p64) fa_nil ?_
 obtain ⟨x66, i67, h68⟩ := bd_inv h54
 refine D2.lo rfl rfl (Lo.callPF (ps := []) (pw := fun w => [eSl w 108 (rI .u32) x66]) rfl (fn := Tryd.f63) (by kernel_rfl) rfl (mc rfl (mc rfl mn)) O57 (fun L' O' => g_nat_N_Mul_ok K w60 p0.num f62 w63 p1.num f65 O' _ i67)) ?_ fa_nil ?_ ?_
 ·rintro v77 H78 ⟨w74, G69, O70, s71, sm76, rfl⟩; exact (faR1 (.inl (by decide)) (faR1 (.inl (by decide)) (faR1 (.inr (sm76 _ (Or.inr ⟨1, _, rfl, List.mem_singleton.2 rfl⟩))) (faR1 (.inr (sm76 _ (Or.inr ⟨2, _, rfl, List.mem_singleton.2 rfl⟩))) fa_nil))))
 ·rintro v77 H78 ⟨w74, G69, O70, s71, sm76, rfl⟩; exact fa_nil
 rintro v77 H78 ⟨w74, G69, O70, s71, sm76, rfl⟩
 replace O70 : Ow G69 H78 (eSl w74 108 (rI .u32) x66 :: eVar b12 91 T_Q (Q.mk false ([] : List Int) ([] : List Int)) :: eVar b7 91 T_Q p1 :: eVar b2 91 T_Q p0 :: L) := O70
 obtain ⟨c79, p80, f81⟩ := (O70.atVar (j := 3) rfl)
 refine D2.loadA' (cs := c79) rfl rfl ag91 sz91 (pt_px ((fr32 2 rfl).trans rfl) p80) (RT.len _ f81) (faQ_eq (fa_px ((fr32 2 rfl).trans rfl) (sm76 _ (Or.inr ⟨2, _, rfl, List.mem_singleton.2 rfl⟩))) fa_nil) ?_
 obtain ⟨x82, i83, h84⟩ := bd_inv h68
 refine D2.lo rfl rfl (Lo.callP (ps := []) (ps' := []) rfl (fn := Tryd.f110) (by kernel_rfl) rfl (mc rfl mn) O70 (fun L' O' => g_rat_Q_whole_ok K c79 p0 f81 O' _ i83)) ?_ (faL_bit (by decide) fa_nil) ?_ ?_
 ·rintro v93 H94 ⟨G85, O86, s87, sm92, ⟨w89, rfl, f90⟩⟩; exact (faR1 (.inl (by decide)) (faR1 (.inl (by decide)) (faR1 (.inl (by decide)) (faR1 (.inr (sm92 _ (Or.inr ⟨2, _, rfl, List.mem_singleton.2 rfl⟩))) (faR1 (.inr (sm92 _ (Or.inr ⟨3, _, rfl, List.mem_singleton.2 rfl⟩))) fa_nil)))))
 ·rintro v93 H94 ⟨G85, O86, s87, sm92, ⟨w89, rfl, f90⟩⟩; exact fa_nil
 rintro v93 H94 ⟨G85, O86, s87, sm92, ⟨w89, rfl, f90⟩⟩
 replace O86 : Ow G85 H94 (eSl w74 108 (rI .u32) x66 :: eVar b12 91 T_Q (Q.mk false ([] : List Int) ([] : List Int)) :: eVar b7 91 T_Q p1 :: eVar b2 91 T_Q p0 :: L) := O86
 obtain ⟨c95, p96, f97⟩ := (O86.atVar (j := 2) rfl)
 refine D2.loadA' (cs := c95) rfl rfl ag91 sz91 (pt_px ((fr32 3 rfl).trans rfl) p96) (RT.len _ f97) (faQ_eq (fa_px ((fr32 3 rfl).trans rfl) (sm92 _ (Or.inr ⟨2, _, rfl, List.mem_singleton.2 rfl⟩))) (faQ_eq (fa_px ((fr32 3 rfl).trans rfl) (sm76 _ (Or.inr ⟨1, _, rfl, List.mem_singleton.2 rfl⟩))) fa_nil)) ?_
 obtain ⟨x98, i99, h100⟩ := bd_inv h84
 refine D2.lo rfl rfl (Lo.callP (ps := []) (ps' := []) rfl (fn := Tryd.f110) (by kernel_rfl) rfl (mc rfl mn) O86 (fun L' O' => g_rat_Q_whole_ok K c95 p1 f97 O' _ i99)) ?_ (faL_bit (by decide) (faL_bit (by decide) fa_nil)) ?_ ?_
 ·rintro v109 H110 ⟨G101, O102, s103, sm108, ⟨w105, rfl, f106⟩⟩; exact (faR1 (.inl (by decide)) (faR1 (.inl (by decide)) (faR1 (.inl (by decide)) (faR1 (.inl (by decide)) (faR1 (.inr (sm108 _ (Or.inr ⟨2, _, rfl, List.mem_singleton.2 rfl⟩))) (faR1 (.inr (sm108 _ (Or.inr ⟨3, _, rfl, List.mem_singleton.2 rfl⟩))) fa_nil))))))
 ·rintro v109 H110 ⟨G101, O102, s103, sm108, ⟨w105, rfl, f106⟩⟩; exact fa_nil
 rintro v109 H110 ⟨G101, O102, s103, sm108, ⟨w105, rfl, f106⟩⟩
 replace O102 : Ow G101 H110 (eSl w74 108 (rI .u32) x66 :: eVar b12 91 T_Q (Q.mk false ([] : List Int) ([] : List Int)) :: eVar b7 91 T_Q p1 :: eVar b2 91 T_Q p0 :: L) := O102
 obtain ⟨x111, i112, h113⟩ := bd_inv h100
 refine D2.lo rfl rfl (Lo.callPF (ps := []) (pw := fun w => [eSl w 108 (rI .u32) x111]) rfl (fn := Tryd.f63) (by kernel_rfl) rfl (mc rfl (mc rfl mn)) O102 (fun L' O' => g_nat_N_Mul_ok K w89 x82 (RT.mono _ s103 f90) w105 x98 f106 O' _ i112)) ?_ (faL_bit (by decide) (faL_bit (by decide) (faL_bit (by decide) fa_nil))) ?_ ?_
 ·rintro v122 H123 ⟨w119, G114, O115, s116, sm121, rfl⟩; exact (faR1 (.inl (by decide)) (faR1 (.inl (by decide)) (faR1 (.inl (by decide)) (faR1 (.inl (by decide)) (faR1 (.inr (sm121 _ (Or.inr ⟨2, _, rfl, List.mem_singleton.2 rfl⟩))) (faR1 (.inr (sm121 _ (Or.inr ⟨3, _, rfl, List.mem_singleton.2 rfl⟩))) fa_nil))))))
 ·rintro v122 H123 ⟨w119, G114, O115, s116, sm121, rfl⟩; exact fa_nil
 rintro v122 H123 ⟨w119, G114, O115, s116, sm121, rfl⟩
 replace O115 : Ow G114 H123 (eSl w119 108 (rI .u32) x111 :: eSl w74 108 (rI .u32) x66 :: eVar b12 91 T_Q (Q.mk false ([] : List Int) ([] : List Int)) :: eVar b7 91 T_Q p1 :: eVar b2 91 T_Q p0 :: L) := O115
 obtain ⟨G124, O125, s126, f127⟩ := O115.frzSl (j := 1) rfl
 replace O125 : Ow G124 H123 (eSl w119 108 (rI .u32) x111 :: eVar b12 91 T_Q (Q.mk false ([] : List Int) ([] : List Int)) :: eVar b7 91 T_Q p1 :: eVar b2 91 T_Q p0 :: L) := O125
 obtain ⟨G128, O129, s130, f131⟩ := O125.frzSl (j := 0) rfl
 replace O129 : Ow G128 H123 (eVar b12 91 T_Q (Q.mk false ([] : List Int) ([] : List Int)) :: eVar b7 91 T_Q p1 :: eVar b2 91 T_Q p0 :: L) := O129
 obtain ⟨x132, i133, h134⟩ := bd_inv h113
 refine D2.lo rfl rfl (Lo.callP (ps := []) (ps' := []) rfl (fn := Tryd.f82) (by kernel_rfl) rfl (mc rfl (mc rfl (mc rfl mn))) O129 (fun L' O' => g_rat_low_ok K (!(p0.neg == p1.neg)) w74 x66 (RT.mono _ s130 f127) w119 x111 f131 O' _ i133)) ?_ (faL_bit (by decide) (faL_bit (by decide) (faL_bit (by decide) (faL_bit (by decide) fa_nil)))) ?_ ?_
 ·rintro v143 H144 ⟨G135, O136, s137, sm142, ⟨c139, rfl, f140⟩⟩; exact (faR1 (.inl (by decide)) (faR1 (.inl (by decide)) (faR1 (.inl (by decide)) (faR1 (.inl (by decide)) (faR1 (.inl (by decide)) (faR1 (.inl (by decide)) fa_nil))))))
 ·rintro v143 H144 ⟨G135, O136, s137, sm142, ⟨c139, rfl, f140⟩⟩; exact fa_nil
 rintro v143 H144 ⟨G135, O136, s137, sm142, ⟨c139, rfl, f140⟩⟩
 replace O136 : Ow G135 H144 (eVar b12 91 T_Q (Q.mk false ([] : List Int) ([] : List Int)) :: eVar b7 91 T_Q p1 :: eVar b2 91 T_Q p0 :: L) := O136
 refine D2.lo rfl rfl (Lo.storeVar (j := 0) (s := T_Q) (y0 := x132) (v := (.agg (List.toArray c139))) (o := 0) rfl ((Put.at (Put.self _) _ _)) rfl sz91 ((fr32 4 rfl).trans rfl) (by omega) rfl f140 O136) ?_ (faL_bit (by decide) (faL_bit (by decide) (faL_bit (by decide) (faL_bit (by decide) (faL_bit (by decide) fa_nil))))) ?_ ?_
 ·rintro v147 H148 ⟨O145, sm146⟩; exact (faR1 (.inl (by decide)) (faR1 (.inl (by decide)) (faR1 (.inl (by decide)) (faR1 (.inl (by decide)) (faR1 (.inl (by decide)) (faR1 (.inl (by decide)) fa_nil))))))
 ·rintro v147 H148 ⟨O145, sm146⟩; exact fa_nil
 rintro v147 H148 ⟨O145, sm146⟩
 replace O145 : Ow G135 H148 (eVar b12 91 T_Q x132 :: eVar b7 91 T_Q p1 :: eVar b2 91 T_Q p0 :: L) := O145
 refine .nil (.ret ?_)
 obtain ⟨c149, p150, f151⟩ := (O145.atVar (j := 0) rfl)
 have O152 : Ow G135 H148 (eVar b7 91 T_Q p1 :: eVar b2 91 T_Q p0 :: L) := O145.drop 0
 have O153 : Ow G135 H148 (eVar b2 91 T_Q p0 :: L) := O152.drop 0
 have O154 : Ow G135 H148 (L) := O153.drop 0
 obtain rfl := Option.some.inj h134
 refine ret1R (P := Tryd.prog) (fn := Tryd.f92) (n := 32) (R := fun v H' => ∃ G', Ow G' H' (L) ∧ G.le G' ∧ ∃ (w0 : List Value), v = .agg (List.toArray w0) ∧ T_Q.rep G' w0 x132) (v1 := (.agg (List.toArray c149))) (by rfl) (rr_cellA (p := (.pointer (some ⟨b12, 0, none⟩))) (by rfl) ag91 sz91 (by exact ((fr32 4 rfl).trans rfl)) p150 (RT.len _ f151)) ?_
 exact ⟨_, O154, (GM.le.trans s35 (GM.le.trans s71 (GM.le.trans s87 (GM.le.trans s103 (GM.le.trans s116 (GM.le.trans s126 (GM.le.trans s130 s137))))))), c149, rfl, f151⟩
def g_rat_Mul (K : Nat) (p0 : ByteArray) (p1 : ByteArray) : Option (ByteArray × Int) := ((g_rat_two K p0 p1 (fun x => g_rat_Q_Mul K x.1 x.2)).bind fun x5 => some (x5.1, x5.2))
set_option maxHeartbeats 4000000 in
theorem g_rat_Mul_ok (K : Nat) {G : GM} {H : AH} {L : List Pc} (p0 : ByteArray) (p1 : ByteArray) (O : Ow G H (L)) (r : ByteArray × Int) (h : g_rat_Mul K p0 p1 = some r) :
    CR Tryd.prog 45 [(.string p0), (.string p1)] G H (L) (fun v G' _ => v = .tuple #[.string r.1, .int .i64 r.2]) := by
 unfold g_rat_Mul at h
 refine CR.of (calls_of_AW (n := 11) (fn := Tryd.f45) (R := fun v H' => ∃ G', Ow G' H' (L) ∧ G.le G' ∧ v = .tuple #[.string r.1, .int .i64 r.2]) (by kernel_rfl) rfl rfl ?_)
 refine .seq (.region (W.q1 (.string (⟨#[]⟩ : ByteArray)) rfl (W.q1 (.int .i64 0) rfl (.nil (.seq (.region ?_))))))
 refine W.q2 (.string p0) rfl (W.q2 (.string p1) rfl ?_)
 obtain ⟨x5, i6, h7⟩ := bd_inv h
 refine W.lo rfl rfl (Lo.callP (ps := []) (ps' := []) rfl (fn := Tryd.f86) (by kernel_rfl) rfl (mc rfl (mc rfl (mc rfl mn))) O (fun L' O' => g_rat_two_ok K p0 p1 (.func (.func 92) #[] #[]) (fun x => g_rat_Q_Mul K x.1 x.2) ⟨92, _, _, Tryd.f92, rfl, by kernel_rfl, rfl, fun G1 H L vs x r hG O hA hF => by obtain ⟨w1, w3, rfl, f2, f4⟩ := hA; exact g_rat_Q_Mul_ok K w1 x.1 f2 w3 x.2 f4 O _ hF⟩ O' _ i6)) ?_
 rintro v14 H15 ⟨G8, O9, s10, sm13, rfl⟩
 replace O9 : Ow G8 H15 (L) := O9
 refine W.pure (v := (.string x5.1)) rfl rfl (v_extract (oo rfl rfl) rfl) (W.pure (v := (.int .i64 x5.2)) rfl rfl (v_extract (oo rfl rfl) rfl) (W.q1 (.string x5.1) rfl (W.q1 (.int .i64 x5.2) rfl (.nil (.ret ?_)))))
 obtain rfl := Option.some.inj h7
 refine ret2R (P := Tryd.prog) (fn := Tryd.f45) (n := 11) (R := fun v H' => ∃ G', Ow G' H' (L) ∧ G.le G' ∧ v = .tuple #[.string (x5.1, x5.2).1, .int .i64 (x5.1, x5.2).2]) (v1 := (.string x5.1)) (v2 := (.int .i64 x5.2)) (by rfl) (rr_tmp (by rfl) (by exact rfl)) (rr_tmp (by rfl) (by exact rfl)) ?_
 exact ⟨_, O9, s10, rfl⟩
def g_rat_Q_Quo (K : Nat) (p0 : Q) (p1 : Q) : Option Q := (Option.bind ((if ((List.length p0.num : Int) == 0) = true then some true else some ((List.length p1.num : Int) == 0))) (tu1 fun x29 => (if x29 = true then some (Q.mk false ([] : List Int) ([] : List Int)) else ((g_rat_Q_whole K p1).bind fun x66 => ((g_nat_N_Mul K p0.num x66).bind fun x79 => ((g_rat_Q_whole K p0).bind fun x95 => ((g_nat_N_Mul K x95 p1.num).bind fun x111 => ((g_rat_low K (!(p0.neg == p1.neg)) x79 x111).bind fun x132 => some x132))))))))
set_option maxHeartbeats 4000000 in
theorem g_rat_Q_Quo_ok (K : Nat) {G : GM} {H : AH} {L : List Pc} (v0 : List Value) (p0 : Q) (hp0 : T_Q.rep G v0 p0) (v1 : List Value) (p1 : Q) (hp1 : T_Q.rep G v1 p1) (O : Ow G H (L)) (r : Q) (h : g_rat_Q_Quo K p0 p1 = some r) :
    CR Tryd.prog 93 [.agg (List.toArray v0), .agg (List.toArray v1)] G H (L) (fun v G' _ => ∃ (w0 : List Value), v = .agg (List.toArray w0) ∧ T_Q.rep G' w0 r) := by
 unfold g_rat_Q_Quo at h
 refine CR.of (calls_of_AW (n := 32) (fn := Tryd.f93) (R := fun v H' => ∃ G', Ow G' H' (L) ∧ G.le G' ∧ ∃ (w0 : List Value), v = .agg (List.toArray w0) ∧ T_Q.rep G' w0 r) (by kernel_rfl) rfl rfl ?_)
 refine .seq (.region (W.lo rfl rfl (Lo.box (r := T_Q) (x0 := p0) (v := (.agg (List.toArray v0))) rfl rfl hp0 O) ?_))
 rintro v4 H5 ⟨b2, rfl, O1, sm3⟩
 refine W.lo rfl rfl (Lo.box (r := T_Q) (x0 := p1) (v := (.agg (List.toArray v1))) rfl rfl hp1 O1) ?_
 rintro v9 H10 ⟨b7, rfl, O6, sm8⟩
 refine W.lo rfl rfl (Lo.alloc (r := T_Q) (x0 := (Q.mk false ([] : List Int) ([] : List Int))) ze91 (by kernel_rfl) z_Q O6) ?_
 rintro v14 H15 ⟨b12, rfl, O11, sm13⟩
 refine .nil (.seq (.seq ?_))
 obtain ⟨q16, h17, h18⟩ := bd_inv h
 refine AW.midT (fun σ' H' => ∃ (y1 : Bool) (G' : GM), y1 = q16 ∧ Ow G' H' (eVar b12 91 T_Q (Q.mk false ([] : List Int) ([] : List Int)) :: eVar b7 91 T_Q p1 :: eVar b2 91 T_Q p0 :: L) ∧ GM.le G G' ∧ σ' 14 = .bool y1) ?_ ?_
 ·refine .region (W.pure (v := (padd (.pointer (some ⟨b2, 0, none⟩)) 1)) rfl rfl (v_fldA fl91_1 (oo rfl rfl) (O11.atVar (j := 2) rfl)) ?_)
  obtain ⟨w19, p20, f21⟩ := At.sl (At.proj (O11.atVar (j := 2) rfl) p_Q_num)
  refine W.load1 (v := w19) (r := []) rfl rfl ag64 (pt_px rfl p20) (W.pure (v := (.int .i64 (List.length p0.num : Int))) rfl rfl (len_sl (oo rfl rfl) (sl_len f21) (elemT_inv el64)) (W.q3 (.bool ((List.length p0.num : Int) == 0)) rfl rfl (W.q2 (.bool ((List.length p0.num : Int) == 0)) rfl (W.splitAt (t := 9) (b := ((List.length p0.num : Int) == 0)) rfl (fun g22 gv23 => ?_) (fun g22 gv23 => ?_)))))
  ·have h24 := pos_inv g22 h17
   refine W.q6 rfl gv23 (W.q6 rfl gv23 (W.q6 rfl gv23 (W.q6 rfl gv23 (W.q4 (.bool true) gv23 rfl (.nil ?_)))))
   obtain rfl := Option.some.inj h24
   exact ⟨true, _, rfl, O11, (GM.le.refl _), rfl⟩
  have h25 := neg_b g22 h17
  refine W.pure (v := (padd (.pointer (some ⟨b7, 0, none⟩)) 1)) (gk rfl rfl gv23 rfl) rfl (v_fldA fl91_1 (oo rfl rfl) (O11.atVar (j := 1) rfl)) ?_
  obtain ⟨w26, p27, f28⟩ := At.sl (At.proj (O11.atVar (j := 1) rfl) p_Q_num)
  refine W.load1 (v := w26) (r := []) (gk rfl rfl gv23 rfl) rfl ag64 (pt_px rfl p27) (W.pure (v := (.int .i64 (List.length p1.num : Int))) (gk rfl rfl gv23 rfl) rfl (len_sl (oo rfl rfl) (sl_len f28) (elemT_inv el64)) (W.q3 (hg := gk rfl rfl gv23 rfl) (.bool ((List.length p1.num : Int) == 0)) rfl rfl (W.q5 (.bool ((List.length p1.num : Int) == 0)) gv23 rfl (.nil ?_))))
  obtain rfl := Option.some.inj h25
  exact ⟨((List.length p1.num : Int) == 0), _, rfl, O11, (GM.le.refl _), rfl⟩
 rintro σ30 H31 fr32 ⟨x29, G33, rfl, O34, s35, t37⟩
 have h38 := tu1_inv h18
 refine .cond (b := x29) rfl t37 (fun g39 => ?_) (fun g39 => ?_)
 ·have h40 := pos_inv g39 h38
  refine .seq (.region ?_)
  obtain ⟨c41, e43, f42⟩ := bd_Q_
  refine W.pure (v := .agg (List.toArray c41)) rfl rfl (e43 (opndP_oo rfl qn')) (W.lo rfl rfl (Lo.storeVar (j := 0) (s := T_Q) (y0 := (Q.mk false ([] : List Int) ([] : List Int))) (v := (.agg (List.toArray c41))) (o := 0) rfl ((Put.at (Put.self _) _ _)) rfl sz91 ((fr32 4 rfl).trans rfl) (by omega) rfl f42 O34) ?_)
  rintro v46 H47 ⟨O44, sm45⟩
  replace O44 : Ow G33 H47 (eVar b12 91 T_Q (Q.mk false ([] : List Int) ([] : List Int)) :: eVar b7 91 T_Q p1 :: eVar b2 91 T_Q p0 :: L) := O44
  refine .nil (.ret ?_)
  obtain ⟨c48, p49, f50⟩ := (O44.atVar (j := 0) rfl)
  have O51 : Ow G33 H47 (eVar b7 91 T_Q p1 :: eVar b2 91 T_Q p0 :: L) := O44.drop 0
  have O52 : Ow G33 H47 (eVar b2 91 T_Q p0 :: L) := O51.drop 0
  have O53 : Ow G33 H47 (L) := O52.drop 0
  obtain rfl := Option.some.inj h40
  refine ret1R (P := Tryd.prog) (fn := Tryd.f93) (n := 32) (R := fun v H' => ∃ G', Ow G' H' (L) ∧ G.le G' ∧ ∃ (w0 : List Value), v = .agg (List.toArray w0) ∧ T_Q.rep G' w0 (Q.mk false ([] : List Int) ([] : List Int))) (v1 := (.agg (List.toArray c48))) (by rfl) (rr_cellA (p := (.pointer (some ⟨b12, 0, none⟩))) (by rfl) ag91 sz91 (by exact ((fr32 4 rfl).trans rfl)) p49 (RT.len _ f50)) ?_
  exact ⟨_, O53, s35, c48, rfl, f50⟩
 have h54 := neg_b g39 h38
 refine .skip (.seq (.draw2 (M := [0, 1, 0, 4, 15, 0, 32, 0, 128, 480, 0, 2016, 0, 4096, 16352, 32767, 65535]) mixed (by kernel_rfl) (by kernel_rfl) fun H55 N59 x56 F58 => ?_))
 have O57 := O34.ext x56
 refine D2.pure (v := (padd (.pointer (some ⟨b2, 0, none⟩)) 0)) rfl rfl (v_fldA fl91_0 (oo rfl ((fr32 2 rfl).trans rfl)) (O57.atVar (j := 2) rfl)) (D2.load1' (v := (.bool p0.neg)) (r := []) rfl rfl ag4 (pt_px rfl (At.bool (At.proj (O57.atVar (j := 2) rfl) p_Q_neg))) fa_nil (D2.pure (v := (padd (.pointer (some ⟨b7, 0, none⟩)) 0)) rfl rfl (v_fldA fl91_0 (oo rfl ((fr32 3 rfl).trans rfl)) (O57.atVar (j := 1) rfl)) (D2.load1' (v := (.bool p1.neg)) (r := []) rfl rfl ag4 (pt_px rfl (At.bool (At.proj (O57.atVar (j := 1) rfl) p_Q_neg))) fa_nil (D2.pure (v := (.bool (!(p0.neg == p1.neg)))) rfl rfl (bool_neq (oo rfl rfl) (oo rfl rfl) un4) (D2.pure (v := (padd (.pointer (some ⟨b2, 0, none⟩)) 1)) rfl rfl (v_fldA fl91_1 (oo rfl ((fr32 2 rfl).trans rfl)) (O57.atVar (j := 2) rfl)) ?_)))))
 obtain ⟨w60, p61, f62⟩ := At.sl (At.proj (O57.atVar (j := 2) rfl) p_Q_num)
 refine D2.load1' (v := w60) (r := []) rfl rfl ag64 (pt_px rfl p61) fa_nil ?_
 obtain ⟨c63, p64, f65⟩ := (O57.atVar (j := 1) rfl)
 refine D2.loadA' (cs := c63) rfl rfl ag91 sz91 (pt_px ((fr32 3 rfl).trans rfl) p64) (RT.len _ f65) fa_nil ?_
 obtain ⟨x66, i67, h68⟩ := bd_inv h54
 refine D2.lo rfl rfl (Lo.callP (ps := []) (ps' := []) rfl (fn := Tryd.f110) (by kernel_rfl) rfl (mc rfl mn) O57 (fun L' O' => g_rat_Q_whole_ok K c63 p1 f65 O' _ i67)) ?_ fa_nil ?_ ?_
 ·rintro v77 H78 ⟨G69, O70, s71, sm76, ⟨w73, rfl, f74⟩⟩; exact (faR1 (.inl (by decide)) (faR1 (.inr (sm76 _ (Or.inr ⟨2, _, rfl, List.mem_singleton.2 rfl⟩))) (faR1 (.inr (sm76 _ (Or.inr ⟨1, _, rfl, List.mem_singleton.2 rfl⟩))) (faR1 (.inr (sm76 _ (Or.inr ⟨2, _, rfl, List.mem_singleton.2 rfl⟩))) fa_nil))))
 ·rintro v77 H78 ⟨G69, O70, s71, sm76, ⟨w73, rfl, f74⟩⟩; exact fa_nil
 rintro v77 H78 ⟨G69, O70, s71, sm76, ⟨w73, rfl, f74⟩⟩
 replace O70 : Ow G69 H78 (eVar b12 91 T_Q (Q.mk false ([] : List Int) ([] : List Int)) :: eVar b7 91 T_Q p1 :: eVar b2 91 T_Q p0 :: L) := O70
 obtain ⟨x79, i80, h81⟩ := bd_inv h68
 refine D2.lo rfl rfl (Lo.callPF (ps := []) (pw := fun w => [eSl w 108 (rI .u32) x79]) rfl (fn := Tryd.f63) (by kernel_rfl) rfl (mc rfl (mc rfl mn)) O70 (fun L' O' => g_nat_N_Mul_ok K w60 p0.num (RT.mono _ s71 f62) w73 x66 f74 O' _ i80)) ?_ (faL_bit (by decide) fa_nil) ?_ ?_
 ·rintro v90 H91 ⟨w87, G82, O83, s84, sm89, rfl⟩; exact (faR1 (.inl (by decide)) (faR1 (.inl (by decide)) (faR1 (.inr (sm89 _ (Or.inr ⟨1, _, rfl, List.mem_singleton.2 rfl⟩))) (faR1 (.inr (sm89 _ (Or.inr ⟨2, _, rfl, List.mem_singleton.2 rfl⟩))) fa_nil))))
 ·rintro v90 H91 ⟨w87, G82, O83, s84, sm89, rfl⟩; exact fa_nil
 rintro v90 H91 ⟨w87, G82, O83, s84, sm89, rfl⟩
 replace O83 : Ow G82 H91 (eSl w87 108 (rI .u32) x79 :: eVar b12 91 T_Q (Q.mk false ([] : List Int) ([] : List Int)) :: eVar b7 91 T_Q p1 :: eVar b2 91 T_Q p0 :: L) := O83
 obtain ⟨c92, p93, f94⟩ := (O83.atVar (j := 3) rfl)
 refine D2.loadA' (cs := c92) rfl rfl ag91 sz91 (pt_px ((fr32 2 rfl).trans rfl) p93) (RT.len _ f94) (faQ_eq (fa_px ((fr32 2 rfl).trans rfl) (sm89 _ (Or.inr ⟨2, _, rfl, List.mem_singleton.2 rfl⟩))) (faQ_eq (fa_px ((fr32 2 rfl).trans rfl) (sm76 _ (Or.inr ⟨2, _, rfl, List.mem_singleton.2 rfl⟩))) fa_nil)) ?_
 obtain ⟨x95, i96, h97⟩ := bd_inv h81
 refine D2.lo rfl rfl (Lo.callP (ps := []) (ps' := []) rfl (fn := Tryd.f110) (by kernel_rfl) rfl (mc rfl mn) O83 (fun L' O' => g_rat_Q_whole_ok K c92 p0 f94 O' _ i96)) ?_ (faL_bit (by decide) (faL_bit (by decide) fa_nil)) ?_ ?_
 ·rintro v106 H107 ⟨G98, O99, s100, sm105, ⟨w102, rfl, f103⟩⟩; exact (faR1 (.inl (by decide)) (faR1 (.inl (by decide)) (faR1 (.inl (by decide)) (faR1 (.inr (sm105 _ (Or.inr ⟨2, _, rfl, List.mem_singleton.2 rfl⟩))) (faR1 (.inr (sm105 _ (Or.inr ⟨3, _, rfl, List.mem_singleton.2 rfl⟩))) fa_nil)))))
 ·rintro v106 H107 ⟨G98, O99, s100, sm105, ⟨w102, rfl, f103⟩⟩; exact fa_nil
 rintro v106 H107 ⟨G98, O99, s100, sm105, ⟨w102, rfl, f103⟩⟩
 replace O99 : Ow G98 H107 (eSl w87 108 (rI .u32) x79 :: eVar b12 91 T_Q (Q.mk false ([] : List Int) ([] : List Int)) :: eVar b7 91 T_Q p1 :: eVar b2 91 T_Q p0 :: L) := O99
 refine D2.pure (v := (padd (.pointer (some ⟨b7, 0, none⟩)) 1)) rfl rfl (v_fldA fl91_1 (oo rfl ((fr32 3 rfl).trans rfl)) (O99.atVar (j := 2) rfl)) ?_
 obtain ⟨w108, p109, f110⟩ := At.sl (At.proj (O99.atVar (j := 2) rfl) p_Q_num)
 refine D2.load1' (v := w108) (r := []) rfl rfl ag64 (pt_px rfl p109) (faQ_eq (sm105 _ (Or.inr ⟨2, _, rfl, List.mem_singleton.2 rfl⟩)) (faQ_eq (sm89 _ (Or.inr ⟨1, _, rfl, List.mem_singleton.2 rfl⟩)) (faQ_eq (sm76 _ (Or.inr ⟨1, _, rfl, List.mem_singleton.2 rfl⟩)) fa_nil))) ?_
 obtain ⟨x111, i112, h113⟩ := bd_inv h97
 refine D2.lo rfl rfl (Lo.callPF (ps := []) (pw := fun w => [eSl w 108 (rI .u32) x111]) rfl (fn := Tryd.f63) (by kernel_rfl) rfl (mc rfl (mc rfl mn)) O99 (fun L' O' => g_nat_N_Mul_ok K w102 x95 f103 w108 p1.num f110 O' _ i112)) ?_ (faL_bit (by decide) (faL_bit (by decide) (faL_bit (by decide) fa_nil))) ?_ ?_
 ·rintro v122 H123 ⟨w119, G114, O115, s116, sm121, rfl⟩; exact (faR1 (.inl (by decide)) (faR1 (.inl (by decide)) (faR1 (.inl (by decide)) (faR1 (.inl (by decide)) (faR1 (.inr (sm121 _ (Or.inr ⟨2, _, rfl, List.mem_singleton.2 rfl⟩))) (faR1 (.inr (sm121 _ (Or.inr ⟨3, _, rfl, List.mem_singleton.2 rfl⟩))) fa_nil))))))
 ·rintro v122 H123 ⟨w119, G114, O115, s116, sm121, rfl⟩; exact fa_nil
 rintro v122 H123 ⟨w119, G114, O115, s116, sm121, rfl⟩
 replace O115 : Ow G114 H123 (eSl w119 108 (rI .u32) x111 :: eSl w87 108 (rI .u32) x79 :: eVar b12 91 T_Q (Q.mk false ([] : List Int) ([] : List Int)) :: eVar b7 91 T_Q p1 :: eVar b2 91 T_Q p0 :: L) := O115
 obtain ⟨G124, O125, s126, f127⟩ := O115.frzSl (j := 1) rfl
 replace O125 : Ow G124 H123 (eSl w119 108 (rI .u32) x111 :: eVar b12 91 T_Q (Q.mk false ([] : List Int) ([] : List Int)) :: eVar b7 91 T_Q p1 :: eVar b2 91 T_Q p0 :: L) := O125
 obtain ⟨G128, O129, s130, f131⟩ := O125.frzSl (j := 0) rfl
 replace O129 : Ow G128 H123 (eVar b12 91 T_Q (Q.mk false ([] : List Int) ([] : List Int)) :: eVar b7 91 T_Q p1 :: eVar b2 91 T_Q p0 :: L) := O129
 obtain ⟨x132, i133, h134⟩ := bd_inv h113
 refine D2.lo rfl rfl (Lo.callP (ps := []) (ps' := []) rfl (fn := Tryd.f82) (by kernel_rfl) rfl (mc rfl (mc rfl (mc rfl mn))) O129 (fun L' O' => g_rat_low_ok K (!(p0.neg == p1.neg)) w87 x79 (RT.mono _ s130 f127) w119 x111 f131 O' _ i133)) ?_ (faL_bit (by decide) (faL_bit (by decide) (faL_bit (by decide) (faL_bit (by decide) fa_nil)))) ?_ ?_
 ·rintro v143 H144 ⟨G135, O136, s137, sm142, ⟨c139, rfl, f140⟩⟩; exact (faR1 (.inl (by decide)) (faR1 (.inl (by decide)) (faR1 (.inl (by decide)) (faR1 (.inl (by decide)) (faR1 (.inl (by decide)) (faR1 (.inl (by decide)) fa_nil))))))
 ·rintro v143 H144 ⟨G135, O136, s137, sm142, ⟨c139, rfl, f140⟩⟩; exact fa_nil
 rintro v143 H144 ⟨G135, O136, s137, sm142, ⟨c139, rfl, f140⟩⟩
 replace O136 : Ow G135 H144 (eVar b12 91 T_Q (Q.mk false ([] : List Int) ([] : List Int)) :: eVar b7 91 T_Q p1 :: eVar b2 91 T_Q p0 :: L) := O136
 refine D2.lo rfl rfl (Lo.storeVar (j := 0) (s := T_Q) (y0 := x132) (v := (.agg (List.toArray c139))) (o := 0) rfl ((Put.at (Put.self _) _ _)) rfl sz91 ((fr32 4 rfl).trans rfl) (by omega) rfl f140 O136) ?_ (faL_bit (by decide) (faL_bit (by decide) (faL_bit (by decide) (faL_bit (by decide) (faL_bit (by decide) fa_nil))))) ?_ ?_
 ·rintro v147 H148 ⟨O145, sm146⟩; exact (faR1 (.inl (by decide)) (faR1 (.inl (by decide)) (faR1 (.inl (by decide)) (faR1 (.inl (by decide)) (faR1 (.inl (by decide)) (faR1 (.inl (by decide)) fa_nil))))))
 ·rintro v147 H148 ⟨O145, sm146⟩; exact fa_nil
 rintro v147 H148 ⟨O145, sm146⟩
 replace O145 : Ow G135 H148 (eVar b12 91 T_Q x132 :: eVar b7 91 T_Q p1 :: eVar b2 91 T_Q p0 :: L) := O145
 refine .nil (.ret ?_)
 obtain ⟨c149, p150, f151⟩ := (O145.atVar (j := 0) rfl)
 have O152 : Ow G135 H148 (eVar b7 91 T_Q p1 :: eVar b2 91 T_Q p0 :: L) := O145.drop 0
 have O153 : Ow G135 H148 (eVar b2 91 T_Q p0 :: L) := O152.drop 0
 have O154 : Ow G135 H148 (L) := O153.drop 0
 obtain rfl := Option.some.inj h134
 refine ret1R (P := Tryd.prog) (fn := Tryd.f93) (n := 32) (R := fun v H' => ∃ G', Ow G' H' (L) ∧ G.le G' ∧ ∃ (w0 : List Value), v = .agg (List.toArray w0) ∧ T_Q.rep G' w0 x132) (v1 := (.agg (List.toArray c149))) (by rfl) (rr_cellA (p := (.pointer (some ⟨b12, 0, none⟩))) (by rfl) ag91 sz91 (by exact ((fr32 4 rfl).trans rfl)) p150 (RT.len _ f151)) ?_
 exact ⟨_, O154, (GM.le.trans s35 (GM.le.trans s71 (GM.le.trans s84 (GM.le.trans s100 (GM.le.trans s116 (GM.le.trans s126 (GM.le.trans s130 s137))))))), c149, rfl, f151⟩
def g_rat_Div (K : Nat) (p0 : ByteArray) (p1 : ByteArray) : Option (ByteArray × Int) := ((g_rat_CheckAll K [p0, p1]).bind fun x5 => (if (x5 != 0) = true then some ((⟨#[]⟩ : ByteArray), x5) else (if (sEq p1 (⟨#[48]⟩ : ByteArray)) = true then some ((⟨#[]⟩ : ByteArray), 10) else ((g_rat_two K p0 p1 (fun x => g_rat_Q_Quo K x.1 x.2)).bind fun x28 => some (x28.1, x28.2)))))
set_option maxHeartbeats 4000000 in
theorem g_rat_Div_ok (K : Nat) {G : GM} {H : AH} {L : List Pc} (p0 : ByteArray) (p1 : ByteArray) (O : Ow G H (L)) (r : ByteArray × Int) (h : g_rat_Div K p0 p1 = some r) :
    CR Tryd.prog 46 [(.string p0), (.string p1)] G H (L) (fun v G' _ => v = .tuple #[.string r.1, .int .i64 r.2]) := by
 unfold g_rat_Div at h
 refine CR.of (calls_of_AW (n := 21) (fn := Tryd.f46) (R := fun v H' => ∃ G', Ow G' H' (L) ∧ G.le G' ∧ v = .tuple #[.string r.1, .int .i64 r.2]) (by kernel_rfl) rfl rfl ?_)
 refine .seq (.region (W.q1 (.string (⟨#[]⟩ : ByteArray)) rfl (W.q1 (.int .i64 0) rfl (.nil (.seq (.seq ?_))))))
 refine .region (W.q2 (.string p0) rfl (W.q2 (.string p1) rfl (W.lo rfl rfl (Lo.buildSlice (r := rS) (vs := [(.string p0), (.string p1)]) (xs := [p0, p1]) el41 ze40 sz40 (by kernel_rfl) rfl (qc rfl (qc rfl qn)) rfl (.cons rfl (.cons rfl .nil)) O) ?_)))
 rintro v3 H4 ⟨O1, sm2⟩
 obtain ⟨x5, i6, h7⟩ := bd_inv h
 refine W.lo rfl rfl (Lo.callB (j := 0) rfl rfl (fn := Tryd.f34) (by kernel_rfl) rfl (mc rfl mn) O1 (fun G' L' hG O' hB => g_rat_CheckAll_ok K v3 [p0, p1] hB O' _ i6)) ?_
 rintro v14 H15 ⟨G8, O9, s10, sm13, rfl⟩
 replace O9 : Ow G8 H15 (eSl v3 40 rS [p0, p1] :: L) := O9
 refine W.q1 (.int .i64 x5) rfl (.nil (.seq (.region (W.q2 (.int .i64 x5) rfl (W.q3 (.bool (x5 != 0)) rfl rfl (.nil ?_))))))
 refine .cond (b := (x5 != 0)) rfl rfl (fun g16 => ?_) (fun g16 => ?_)
 ·have h17 := pos_inv g16 h7
  refine .seq (.region (W.q2 (.int .i64 x5) rfl (W.q1 (.string (⟨#[]⟩ : ByteArray)) rfl (W.q1 (.int .i64 x5) rfl (.nil (.ret ?_))))))
  have O18 : Ow G8 H15 (L) := O9.drop 0
  obtain rfl := Option.some.inj h17
  refine ret2R (P := Tryd.prog) (fn := Tryd.f46) (n := 21) (R := fun v H' => ∃ G', Ow G' H' (L) ∧ G.le G' ∧ v = .tuple #[.string ((⟨#[]⟩ : ByteArray), x5).1, .int .i64 ((⟨#[]⟩ : ByteArray), x5).2]) (v1 := (.string (⟨#[]⟩ : ByteArray))) (v2 := (.int .i64 x5)) (by rfl) (rr_tmp (by rfl) (by exact rfl)) (rr_tmp (by rfl) (by exact rfl)) ?_
  exact ⟨_, O18, s10, rfl⟩
 have h19 := neg_b g16 h7
 refine .skip (.seq (.seq (.region (W.q2 (.string p1) rfl (W.pure (v := (.bool (sEq p1 (⟨#[48]⟩ : ByteArray)))) rfl rfl (vs_eql (oo rfl rfl) (oo rfl rfl)) (.nil ?_))))))
 refine .cond (b := sEq p1 (⟨#[48]⟩ : ByteArray)) rfl rfl (fun g20 => ?_) (fun g20 => ?_)
 ·have h21 := pos_inv g20 h19
  refine .seq (.region (W.q1 (.string (⟨#[]⟩ : ByteArray)) rfl (W.q1 (.int .i64 10) rfl (.nil (.ret ?_)))))
  have O22 : Ow G8 H15 (L) := O9.drop 0
  obtain rfl := Option.some.inj h21
  refine ret2R (P := Tryd.prog) (fn := Tryd.f46) (n := 21) (R := fun v H' => ∃ G', Ow G' H' (L) ∧ G.le G' ∧ v = .tuple #[.string ((⟨#[]⟩ : ByteArray), 10).1, .int .i64 ((⟨#[]⟩ : ByteArray), 10).2]) (v1 := (.string (⟨#[]⟩ : ByteArray))) (v2 := (.int .i64 10)) (by rfl) (rr_tmp (by rfl) (by exact rfl)) (rr_tmp (by rfl) (by exact rfl)) ?_
  exact ⟨_, O22, s10, rfl⟩
 have h23 := neg_b g20 h19
 refine .skip (.seq (.region (W.q2 (.string p0) rfl (W.q2 (.string p1) rfl ?_))))
 obtain ⟨x28, i29, h30⟩ := bd_inv h23
 refine W.lo rfl rfl (Lo.callP (ps := []) (ps' := []) rfl (fn := Tryd.f86) (by kernel_rfl) rfl (mc rfl (mc rfl (mc rfl mn))) O9 (fun L' O' => g_rat_two_ok K p0 p1 (.func (.func 93) #[] #[]) (fun x => g_rat_Q_Quo K x.1 x.2) ⟨93, _, _, Tryd.f93, rfl, by kernel_rfl, rfl, fun G1 H L vs x r hG O hA hF => by obtain ⟨w24, w26, rfl, f25, f27⟩ := hA; exact g_rat_Q_Quo_ok K w24 x.1 f25 w26 x.2 f27 O _ hF⟩ O' _ i29)) ?_
 rintro v37 H38 ⟨G31, O32, s33, sm36, rfl⟩
 replace O32 : Ow G31 H38 (eSl v3 40 rS [p0, p1] :: L) := O32
 refine W.pure (v := (.string x28.1)) rfl rfl (v_extract (oo rfl rfl) rfl) (W.pure (v := (.int .i64 x28.2)) rfl rfl (v_extract (oo rfl rfl) rfl) (W.q1 (.string x28.1) rfl (W.q1 (.int .i64 x28.2) rfl (.nil (.ret ?_)))))
 have O39 : Ow G31 H38 (L) := O32.drop 0
 obtain rfl := Option.some.inj h30
 refine ret2R (P := Tryd.prog) (fn := Tryd.f46) (n := 21) (R := fun v H' => ∃ G', Ow G' H' (L) ∧ G.le G' ∧ v = .tuple #[.string (x28.1, x28.2).1, .int .i64 (x28.1, x28.2).2]) (v1 := (.string x28.1)) (v2 := (.int .i64 x28.2)) (by rfl) (rr_tmp (by rfl) (by exact rfl)) (rr_tmp (by rfl) (by exact rfl)) ?_
 exact ⟨_, O39, (GM.le.trans s10 s33), rfl⟩
def g_rat_Neg (K : Nat) (p0 : ByteArray) : Option (ByteArray × Int) := ((g_rat_Check K p0).bind fun x1 => (if (x1 != 0) = true then some ((⟨#[]⟩ : ByteArray), x1) else ((g_rat_In K p0).bind fun x15 => ((g_rat_Q_Neg K x15).bind fun x28 => ((g_rat_Q_Out K x28).bind fun x41 => some (x41, 0))))))
set_option maxHeartbeats 4000000 in
theorem g_rat_Neg_ok (K : Nat) {G : GM} {H : AH} {L : List Pc} (p0 : ByteArray) (O : Ow G H (L)) (r : ByteArray × Int) (h : g_rat_Neg K p0 = some r) :
    CR Tryd.prog 41 [(.string p0)] G H (L) (fun v G' _ => v = .tuple #[.string r.1, .int .i64 r.2]) := by
 unfold g_rat_Neg at h
 refine CR.of (calls_of_AW (n := 14) (fn := Tryd.f41) (R := fun v H' => ∃ G', Ow G' H' (L) ∧ G.le G' ∧ v = .tuple #[.string r.1, .int .i64 r.2]) (by kernel_rfl) rfl rfl ?_)
 refine .seq (.region (W.q1 (.string (⟨#[]⟩ : ByteArray)) rfl (W.q1 (.int .i64 0) rfl (.nil (.seq (.seq ?_))))))
 refine .region (W.q2 (.string p0) rfl ?_)
 obtain ⟨x1, i2, h3⟩ := bd_inv h
 refine W.lo rfl rfl (Lo.callP (ps := []) (ps' := []) rfl (fn := Tryd.f32) (by kernel_rfl) rfl (mc rfl mn) O (fun L' O' => g_rat_Check_ok K p0 O' _ i2)) ?_
 rintro v10 H11 ⟨G4, O5, s6, sm9, rfl⟩
 replace O5 : Ow G4 H11 (L) := O5
 refine W.q1 (.int .i64 x1) rfl (.nil (.seq (.region (W.q2 (.int .i64 x1) rfl (W.q3 (.bool (x1 != 0)) rfl rfl (.nil ?_))))))
 refine .cond (b := (x1 != 0)) rfl rfl (fun g12 => ?_) (fun g12 => ?_)
 ·have h13 := pos_inv g12 h3
  refine .seq (.region (W.q2 (.int .i64 x1) rfl (W.q1 (.string (⟨#[]⟩ : ByteArray)) rfl (W.q1 (.int .i64 x1) rfl (.nil (.ret ?_))))))
  obtain rfl := Option.some.inj h13
  refine ret2R (P := Tryd.prog) (fn := Tryd.f41) (n := 14) (R := fun v H' => ∃ G', Ow G' H' (L) ∧ G.le G' ∧ v = .tuple #[.string ((⟨#[]⟩ : ByteArray), x1).1, .int .i64 ((⟨#[]⟩ : ByteArray), x1).2]) (v1 := (.string (⟨#[]⟩ : ByteArray))) (v2 := (.int .i64 x1)) (by rfl) (rr_tmp (by rfl) (by exact rfl)) (rr_tmp (by rfl) (by exact rfl)) ?_
  exact ⟨_, O5, s6, rfl⟩
 have h14 := neg_b g12 h3
 refine .skip (.seq (.region (W.q2 (.string p0) rfl ?_)))
 obtain ⟨x15, i16, h17⟩ := bd_inv h14
 refine W.lo rfl rfl (Lo.callP (ps := []) (ps' := []) rfl (fn := Tryd.f89) (by kernel_rfl) rfl (mc rfl mn) O5 (fun L' O' => g_rat_In_ok K p0 O' _ i16)) ?_
 rintro v26 H27 ⟨G18, O19, s20, sm25, ⟨c22, rfl, f23⟩⟩
 replace O19 : Ow G18 H27 (L) := O19
 obtain ⟨x28, i29, h30⟩ := bd_inv h17
 refine W.lo rfl rfl (Lo.callP (ps := []) (ps' := []) rfl (fn := Tryd.f90) (by kernel_rfl) rfl (mc rfl mn) O19 (fun L' O' => g_rat_Q_Neg_ok K c22 x15 f23 O' _ i29)) ?_
 rintro v39 H40 ⟨G31, O32, s33, sm38, ⟨c35, rfl, f36⟩⟩
 replace O32 : Ow G31 H40 (L) := O32
 obtain ⟨x41, i42, h43⟩ := bd_inv h30
 refine W.lo rfl rfl (Lo.callP (ps := []) (ps' := []) rfl (fn := Tryd.f91) (by kernel_rfl) rfl (mc rfl mn) O32 (fun L' O' => g_rat_Q_Out_ok K c35 x28 f36 O' _ i42)) ?_
 rintro v50 H51 ⟨G44, O45, s46, sm49, rfl⟩
 replace O45 : Ow G44 H51 (L) := O45
 refine W.q1 (.string x41) rfl (W.q1 (.int .i64 0) rfl (.nil (.ret ?_)))
 obtain rfl := Option.some.inj h43
 refine ret2R (P := Tryd.prog) (fn := Tryd.f41) (n := 14) (R := fun v H' => ∃ G', Ow G' H' (L) ∧ G.le G' ∧ v = .tuple #[.string (x41, 0).1, .int .i64 (x41, 0).2]) (v1 := (.string x41)) (v2 := (.int .i64 0)) (by rfl) (rr_tmp (by rfl) (by exact rfl)) (rr_tmp (by rfl) (by exact rfl)) ?_
 exact ⟨_, O45, (GM.le.trans s6 (GM.le.trans s20 (GM.le.trans s33 s46))), rfl⟩
def g_rat_Q_Sign (K : Nat) (p0 : Q) : Option Int := (if ((List.length p0.num : Int) == 0) = true then some 0 else (if p0.neg = true then some (-1) else some 1))
set_option maxHeartbeats 4000000 in
theorem g_rat_Q_Sign_ok (K : Nat) {G : GM} {H : AH} {L : List Pc} (v0 : List Value) (p0 : Q) (hp0 : T_Q.rep G v0 p0) (O : Ow G H (L)) (r : Int) (h : g_rat_Q_Sign K p0 = some r) :
    CR Tryd.prog 107 [.agg (List.toArray v0)] G H (L) (fun v G' _ => v = .int .i64 r) := by
 unfold g_rat_Q_Sign at h
 refine CR.of (calls_of_AW (n := 11) (fn := Tryd.f107) (R := fun v H' => ∃ G', Ow G' H' (L) ∧ G.le G' ∧ v = .int .i64 r) (by kernel_rfl) rfl rfl ?_)
 refine .seq (.region (W.lo rfl rfl (Lo.box (r := T_Q) (x0 := p0) (v := (.agg (List.toArray v0))) rfl rfl hp0 O) ?_))
 rintro v4 H5 ⟨b2, rfl, O1, sm3⟩
 refine W.q1 (.int .i64 0) rfl (.nil (.seq (.block (.seq (.region (W.pure (v := (padd (.pointer (some ⟨b2, 0, none⟩)) 1)) rfl rfl (v_fldA fl91_1 (oo rfl rfl) (O1.atVar (j := 0) rfl)) ?_))))))
 obtain ⟨w6, p7, f8⟩ := At.sl (At.proj (O1.atVar (j := 0) rfl) p_Q_num)
 refine W.load1 (v := w6) (r := []) rfl rfl ag64 (pt_px rfl p7) (W.pure (v := (.int .i64 (List.length p0.num : Int))) rfl rfl (len_sl (oo rfl rfl) (sl_len f8) (elemT_inv el64)) (W.q3 (.bool ((List.length p0.num : Int) == 0)) rfl rfl (W.q1 (.bool ((List.length p0.num : Int) == 0)) rfl (.nil (.cond (b := ((List.length p0.num : Int) == 0)) rfl rfl (fun g9 => ?_) (fun g9 => ?_))))))
 ·have h10 := pos_inv g9 h
  refine .seq (.region (W.q1 (.int .i64 0) rfl (.nil (.ret ?_))))
  have O11 : Ow G H5 (L) := O1.drop 0
  obtain rfl := Option.some.inj h10
  refine ret1R (P := Tryd.prog) (fn := Tryd.f107) (n := 11) (R := fun v H' => ∃ G', Ow G' H' (L) ∧ G.le G' ∧ v = .int .i64 0) (v1 := (.int .i64 0)) (by rfl) (rr_tmp (by rfl) (by exact rfl)) ?_
  exact ⟨_, O11, (GM.le.refl _), rfl⟩
 have h12 := neg_b g9 h
 refine .seq (.region (W.pure (v := (padd (.pointer (some ⟨b2, 0, none⟩)) 0)) rfl rfl (v_fldA fl91_0 (oo rfl rfl) (O1.atVar (j := 0) rfl)) (W.load1 (v := (.bool p0.neg)) (r := []) rfl rfl ag4 (pt_px rfl (At.bool (At.proj (O1.atVar (j := 0) rfl) p_Q_neg))) (W.q1 (.bool p0.neg) rfl (.nil (.cond (b := p0.neg) rfl rfl (fun g13 => ?_) (fun g13 => ?_)))))))
 ·have h14 := pos_inv g13 h12
  refine .seq (.region (W.q1 (.int .i64 (-1)) rfl (.nil (.ret ?_))))
  have O15 : Ow G H5 (L) := O1.drop 0
  obtain rfl := Option.some.inj h14
  refine ret1R (P := Tryd.prog) (fn := Tryd.f107) (n := 11) (R := fun v H' => ∃ G', Ow G' H' (L) ∧ G.le G' ∧ v = .int .i64 (-1)) (v1 := (.int .i64 (-1))) (by rfl) (rr_tmp (by rfl) (by exact rfl)) ?_
  exact ⟨_, O15, (GM.le.refl _), rfl⟩
 have h16 := neg_b g13 h12
 refine .skip (.seq (.region (W.q1 (.int .i64 1) rfl (.nil (.ret ?_)))))
 have O17 : Ow G H5 (L) := O1.drop 0
 obtain rfl := Option.some.inj h16
 refine ret1R (P := Tryd.prog) (fn := Tryd.f107) (n := 11) (R := fun v H' => ∃ G', Ow G' H' (L) ∧ G.le G' ∧ v = .int .i64 1) (v1 := (.int .i64 1)) (by rfl) (rr_tmp (by rfl) (by exact rfl)) ?_
 exact ⟨_, O17, (GM.le.refl _), rfl⟩
def g_rat_Q_Cmp (K : Nat) (p0 : Q) (p1 : Q) : Option Int := ((g_rat_Q_Sub K p0 p1).bind fun x17 => ((g_rat_Q_Sign K x17).bind fun x30 => some x30))
set_option maxHeartbeats 4000000 in
theorem g_rat_Q_Cmp_ok (K : Nat) {G : GM} {H : AH} {L : List Pc} (v0 : List Value) (p0 : Q) (hp0 : T_Q.rep G v0 p0) (v1 : List Value) (p1 : Q) (hp1 : T_Q.rep G v1 p1) (O : Ow G H (L)) (r : Int) (h : g_rat_Q_Cmp K p0 p1 = some r) :
    CR Tryd.prog 95 [.agg (List.toArray v0), .agg (List.toArray v1)] G H (L) (fun v G' _ => v = .int .i64 r) := by
 unfold g_rat_Q_Cmp at h
 refine CR.of (calls_of_AW (n := 9) (fn := Tryd.f95) (R := fun v H' => ∃ G', Ow G' H' (L) ∧ G.le G' ∧ v = .int .i64 r) (by kernel_rfl) rfl rfl ?_)
 refine .seq (.region (W.lo rfl rfl (Lo.box (r := T_Q) (x0 := p0) (v := (.agg (List.toArray v0))) rfl rfl hp0 O) ?_))
 rintro v4 H5 ⟨b2, rfl, O1, sm3⟩
 refine W.lo rfl rfl (Lo.box (r := T_Q) (x0 := p1) (v := (.agg (List.toArray v1))) rfl rfl hp1 O1) ?_
 rintro v9 H10 ⟨b7, rfl, O6, sm8⟩
 refine W.q1 (.int .i64 0) rfl (.nil (.seq (.region ?_)))
 obtain ⟨c11, p12, f13⟩ := (O6.atVar (j := 1) rfl)
 refine W.loadA (cs := c11) rfl rfl ag91 sz91 (pt_px rfl p12) (RT.len _ f13) ?_
 obtain ⟨c14, p15, f16⟩ := (O6.atVar (j := 0) rfl)
 refine W.loadA (cs := c14) rfl rfl ag91 sz91 (pt_px rfl p15) (RT.len _ f16) ?_
 obtain ⟨x17, i18, h19⟩ := bd_inv h
 refine W.lo rfl rfl (Lo.callP (ps := []) (ps' := []) rfl (fn := Tryd.f88) (by kernel_rfl) rfl (mc rfl (mc rfl mn)) O6 (fun L' O' => g_rat_Q_Sub_ok K c11 p0 f13 c14 p1 f16 O' _ i18)) ?_
 rintro v28 H29 ⟨G20, O21, s22, sm27, ⟨c24, rfl, f25⟩⟩
 replace O21 : Ow G20 H29 (eVar b7 91 T_Q p1 :: eVar b2 91 T_Q p0 :: L) := O21
 obtain ⟨x30, i31, h32⟩ := bd_inv h19
 refine W.lo rfl rfl (Lo.callP (ps := []) (ps' := []) rfl (fn := Tryd.f107) (by kernel_rfl) rfl (mc rfl mn) O21 (fun L' O' => g_rat_Q_Sign_ok K c24 x17 f25 O' _ i31)) ?_
 rintro v39 H40 ⟨G33, O34, s35, sm38, rfl⟩
 replace O34 : Ow G33 H40 (eVar b7 91 T_Q p1 :: eVar b2 91 T_Q p0 :: L) := O34
 refine W.q1 (.int .i64 x30) rfl (.nil (.ret ?_))
 have O41 : Ow G33 H40 (eVar b2 91 T_Q p0 :: L) := O34.drop 0
 have O42 : Ow G33 H40 (L) := O41.drop 0
 obtain rfl := Option.some.inj h32
 refine ret1R (P := Tryd.prog) (fn := Tryd.f95) (n := 9) (R := fun v H' => ∃ G', Ow G' H' (L) ∧ G.le G' ∧ v = .int .i64 x30) (v1 := (.int .i64 x30)) (by rfl) (rr_tmp (by rfl) (by exact rfl)) ?_
 exact ⟨_, O42, (GM.le.trans s22 s35), rfl⟩
def g_rat_Compare (K : Nat) (p0 : ByteArray) (p1 : ByteArray) : Option (Int × Int) := ((g_rat_CheckAll K [p0, p1]).bind fun x5 => (if (x5 != 0) = true then some (0, x5) else ((g_rat_In K p0).bind fun x20 => ((g_rat_In K p1).bind fun x33 => ((g_rat_Q_Cmp K x20 x33).bind fun x46 => some (x46, 0))))))
set_option maxHeartbeats 4000000 in
theorem g_rat_Compare_ok (K : Nat) {G : GM} {H : AH} {L : List Pc} (p0 : ByteArray) (p1 : ByteArray) (O : Ow G H (L)) (r : Int × Int) (h : g_rat_Compare K p0 p1 = some r) :
    CR Tryd.prog 73 [(.string p0), (.string p1)] G H (L) (fun v G' _ => v = .tuple #[.int .i64 r.1, .int .i64 r.2]) := by
 unfold g_rat_Compare at h
 refine CR.of (calls_of_AW (n := 19) (fn := Tryd.f73) (R := fun v H' => ∃ G', Ow G' H' (L) ∧ G.le G' ∧ v = .tuple #[.int .i64 r.1, .int .i64 r.2]) (by kernel_rfl) rfl rfl ?_)
 refine .seq (.region (W.q1 (.int .i64 0) rfl (W.q1 (.int .i64 0) rfl (.nil (.seq (.seq ?_))))))
 refine .region (W.q2 (.string p0) rfl (W.q2 (.string p1) rfl (W.lo rfl rfl (Lo.buildSlice (r := rS) (vs := [(.string p0), (.string p1)]) (xs := [p0, p1]) el41 ze40 sz40 (by kernel_rfl) rfl (qc rfl (qc rfl qn)) rfl (.cons rfl (.cons rfl .nil)) O) ?_)))
 rintro v3 H4 ⟨O1, sm2⟩
 obtain ⟨x5, i6, h7⟩ := bd_inv h
 refine W.lo rfl rfl (Lo.callB (j := 0) rfl rfl (fn := Tryd.f34) (by kernel_rfl) rfl (mc rfl mn) O1 (fun G' L' hG O' hB => g_rat_CheckAll_ok K v3 [p0, p1] hB O' _ i6)) ?_
 rintro v14 H15 ⟨G8, O9, s10, sm13, rfl⟩
 replace O9 : Ow G8 H15 (eSl v3 40 rS [p0, p1] :: L) := O9
 refine W.q1 (.int .i64 x5) rfl (.nil (.seq (.region (W.q2 (.int .i64 x5) rfl (W.q3 (.bool (x5 != 0)) rfl rfl (.nil ?_))))))
 refine .cond (b := (x5 != 0)) rfl rfl (fun g16 => ?_) (fun g16 => ?_)
 ·have h17 := pos_inv g16 h7
  refine .seq (.region (W.q2 (.int .i64 x5) rfl (W.q1 (.int .i64 0) rfl (W.q1 (.int .i64 x5) rfl (.nil (.ret ?_))))))
  have O18 : Ow G8 H15 (L) := O9.drop 0
  obtain rfl := Option.some.inj h17
  refine ret2R (P := Tryd.prog) (fn := Tryd.f73) (n := 19) (R := fun v H' => ∃ G', Ow G' H' (L) ∧ G.le G' ∧ v = .tuple #[.int .i64 (0, x5).1, .int .i64 (0, x5).2]) (v1 := (.int .i64 0)) (v2 := (.int .i64 x5)) (by rfl) (rr_tmp (by rfl) (by exact rfl)) (rr_tmp (by rfl) (by exact rfl)) ?_
  exact ⟨_, O18, s10, rfl⟩
 have h19 := neg_b g16 h7
 refine .skip (.seq (.region (W.q2 (.string p0) rfl ?_)))
 obtain ⟨x20, i21, h22⟩ := bd_inv h19
 refine W.lo rfl rfl (Lo.callP (ps := []) (ps' := []) rfl (fn := Tryd.f89) (by kernel_rfl) rfl (mc rfl mn) O9 (fun L' O' => g_rat_In_ok K p0 O' _ i21)) ?_
 rintro v31 H32 ⟨G23, O24, s25, sm30, ⟨c27, rfl, f28⟩⟩
 replace O24 : Ow G23 H32 (eSl v3 40 rS [p0, p1] :: L) := O24
 refine W.q2 (.string p1) rfl ?_
 obtain ⟨x33, i34, h35⟩ := bd_inv h22
 refine W.lo rfl rfl (Lo.callP (ps := []) (ps' := []) rfl (fn := Tryd.f89) (by kernel_rfl) rfl (mc rfl mn) O24 (fun L' O' => g_rat_In_ok K p1 O' _ i34)) ?_
 rintro v44 H45 ⟨G36, O37, s38, sm43, ⟨c40, rfl, f41⟩⟩
 replace O37 : Ow G36 H45 (eSl v3 40 rS [p0, p1] :: L) := O37
 obtain ⟨x46, i47, h48⟩ := bd_inv h35
 refine W.lo rfl rfl (Lo.callP (ps := []) (ps' := []) rfl (fn := Tryd.f95) (by kernel_rfl) rfl (mc rfl (mc rfl mn)) O37 (fun L' O' => g_rat_Q_Cmp_ok K c27 x20 (RT.mono _ s38 f28) c40 x33 f41 O' _ i47)) ?_
 rintro v55 H56 ⟨G49, O50, s51, sm54, rfl⟩
 replace O50 : Ow G49 H56 (eSl v3 40 rS [p0, p1] :: L) := O50
 refine W.q1 (.int .i64 x46) rfl (W.q1 (.int .i64 0) rfl (.nil (.ret ?_)))
 have O57 : Ow G49 H56 (L) := O50.drop 0
 obtain rfl := Option.some.inj h48
 refine ret2R (P := Tryd.prog) (fn := Tryd.f73) (n := 19) (R := fun v H' => ∃ G', Ow G' H' (L) ∧ G.le G' ∧ v = .tuple #[.int .i64 (x46, 0).1, .int .i64 (x46, 0).2]) (v1 := (.int .i64 x46)) (v2 := (.int .i64 0)) (by rfl) (rr_tmp (by rfl) (by exact rfl)) (rr_tmp (by rfl) (by exact rfl)) ?_
 exact ⟨_, O57, (GM.le.trans s10 (GM.le.trans s25 (GM.le.trans s38 s51))), rfl⟩
def g_rat_Sign (K : Nat) (p0 : ByteArray) : Option (Int × Int) := ((g_rat_Check K p0).bind fun x1 => (if (x1 != 0) = true then some (0, x1) else ((g_rat_In K p0).bind fun x15 => ((g_rat_Q_Sign K x15).bind fun x28 => some (x28, 0)))))
set_option maxHeartbeats 4000000 in
theorem g_rat_Sign_ok (K : Nat) {G : GM} {H : AH} {L : List Pc} (p0 : ByteArray) (O : Ow G H (L)) (r : Int × Int) (h : g_rat_Sign K p0 = some r) :
    CR Tryd.prog 74 [(.string p0)] G H (L) (fun v G' _ => v = .tuple #[.int .i64 r.1, .int .i64 r.2]) := by
 unfold g_rat_Sign at h
 refine CR.of (calls_of_AW (n := 13) (fn := Tryd.f74) (R := fun v H' => ∃ G', Ow G' H' (L) ∧ G.le G' ∧ v = .tuple #[.int .i64 r.1, .int .i64 r.2]) (by kernel_rfl) rfl rfl ?_)
 refine .seq (.region (W.q1 (.int .i64 0) rfl (W.q1 (.int .i64 0) rfl (.nil (.seq (.seq ?_))))))
 refine .region (W.q2 (.string p0) rfl ?_)
 obtain ⟨x1, i2, h3⟩ := bd_inv h
 refine W.lo rfl rfl (Lo.callP (ps := []) (ps' := []) rfl (fn := Tryd.f32) (by kernel_rfl) rfl (mc rfl mn) O (fun L' O' => g_rat_Check_ok K p0 O' _ i2)) ?_
 rintro v10 H11 ⟨G4, O5, s6, sm9, rfl⟩
 replace O5 : Ow G4 H11 (L) := O5
 refine W.q1 (.int .i64 x1) rfl (.nil (.seq (.region (W.q2 (.int .i64 x1) rfl (W.q3 (.bool (x1 != 0)) rfl rfl (.nil ?_))))))
 refine .cond (b := (x1 != 0)) rfl rfl (fun g12 => ?_) (fun g12 => ?_)
 ·have h13 := pos_inv g12 h3
  refine .seq (.region (W.q2 (.int .i64 x1) rfl (W.q1 (.int .i64 0) rfl (W.q1 (.int .i64 x1) rfl (.nil (.ret ?_))))))
  obtain rfl := Option.some.inj h13
  refine ret2R (P := Tryd.prog) (fn := Tryd.f74) (n := 13) (R := fun v H' => ∃ G', Ow G' H' (L) ∧ G.le G' ∧ v = .tuple #[.int .i64 (0, x1).1, .int .i64 (0, x1).2]) (v1 := (.int .i64 0)) (v2 := (.int .i64 x1)) (by rfl) (rr_tmp (by rfl) (by exact rfl)) (rr_tmp (by rfl) (by exact rfl)) ?_
  exact ⟨_, O5, s6, rfl⟩
 have h14 := neg_b g12 h3
 refine .skip (.seq (.region (W.q2 (.string p0) rfl ?_)))
 obtain ⟨x15, i16, h17⟩ := bd_inv h14
 refine W.lo rfl rfl (Lo.callP (ps := []) (ps' := []) rfl (fn := Tryd.f89) (by kernel_rfl) rfl (mc rfl mn) O5 (fun L' O' => g_rat_In_ok K p0 O' _ i16)) ?_
 rintro v26 H27 ⟨G18, O19, s20, sm25, ⟨c22, rfl, f23⟩⟩
 replace O19 : Ow G18 H27 (L) := O19
 obtain ⟨x28, i29, h30⟩ := bd_inv h17
 refine W.lo rfl rfl (Lo.callP (ps := []) (ps' := []) rfl (fn := Tryd.f107) (by kernel_rfl) rfl (mc rfl mn) O19 (fun L' O' => g_rat_Q_Sign_ok K c22 x15 f23 O' _ i29)) ?_
 rintro v37 H38 ⟨G31, O32, s33, sm36, rfl⟩
 replace O32 : Ow G31 H38 (L) := O32
 refine W.q1 (.int .i64 x28) rfl (W.q1 (.int .i64 0) rfl (.nil (.ret ?_)))
 obtain rfl := Option.some.inj h30
 refine ret2R (P := Tryd.prog) (fn := Tryd.f74) (n := 13) (R := fun v H' => ∃ G', Ow G' H' (L) ∧ G.le G' ∧ v = .tuple #[.int .i64 (x28, 0).1, .int .i64 (x28, 0).2]) (v1 := (.int .i64 x28)) (v2 := (.int .i64 0)) (by rfl) (rr_tmp (by rfl) (by exact rfl)) (rr_tmp (by rfl) (by exact rfl)) ?_
 exact ⟨_, O32, (GM.le.trans s6 (GM.le.trans s20 s33)), rfl⟩
def g_rat_Q_down (K : Nat) (p0 : Q) : Option Q := ((g_rat_Q_whole K p0).bind fun x22 => ((g_nat_N_Div K p0.num x22).bind fun x35 => (Option.bind ((if p0.neg = true then some (decide ((List.length x35.2 : Int) > 0)) else some false)) (tu1 fun x57 => (Option.bind ((if x57 = true then ((g_nat_Of K 1).bind fun x72 => ((g_nat_N_Add K x35.1 x72).bind fun x89 => some x89)) else some x35.1)) (tu1 fun x107 => ((g_nat_Of K 1).bind fun x122 => ((g_rat_low K p0.neg x107 x122).bind fun x139 => some x139))))))))
set_option maxHeartbeats 4000000 in
theorem g_rat_Q_down_ok (K : Nat) {G : GM} {H : AH} {L : List Pc} (v0 : List Value) (p0 : Q) (hp0 : T_Q.rep G v0 p0) (O : Ow G H (L)) (r : Q) (h : g_rat_Q_down K p0 = some r) :
    CR Tryd.prog 108 [.agg (List.toArray v0)] G H (L) (fun v G' _ => ∃ (w0 : List Value), v = .agg (List.toArray w0) ∧ T_Q.rep G' w0 r) := by
 unfold g_rat_Q_down at h
 refine CR.of (calls_of_AW (n := 28) (fn := Tryd.f108) (R := fun v H' => ∃ G', Ow G' H' (L) ∧ G.le G' ∧ ∃ (w0 : List Value), v = .agg (List.toArray w0) ∧ T_Q.rep G' w0 r) (by kernel_rfl) rfl rfl ?_)
 refine .seq (.region (W.lo rfl rfl (Lo.box (r := T_Q) (x0 := p0) (v := (.agg (List.toArray v0))) rfl rfl hp0 O) ?_))
 rintro v4 H5 ⟨b2, rfl, O1, sm3⟩
 refine W.lo rfl rfl (Lo.alloc (r := T_Q) (x0 := (Q.mk false ([] : List Int) ([] : List Int))) ze91 (by kernel_rfl) z_Q O1) ?_
 rintro v9 H10 ⟨b7, rfl, O6, sm8⟩
 refine .nil (.seq (.draw2 (M := [0, 1, 0, 4, 15, 31, 63, 63, 127, 511]) mixed (by kernel_rfl) (by kernel_rfl) fun H11 N15 x12 F14 => ?_))
 have O13 := O6.ext x12
 refine D2.pure (v := (padd (.pointer (some ⟨b2, 0, none⟩)) 1)) rfl rfl (v_fldA fl91_1 (oo rfl rfl) (O13.atVar (j := 1) rfl)) ?_
 obtain ⟨w16, p17, f18⟩ := At.sl (At.proj (O13.atVar (j := 1) rfl) p_Q_num)
 refine D2.load1' (v := w16) (r := []) rfl rfl ag64 (pt_px rfl p17) fa_nil ?_
 obtain ⟨c19, p20, f21⟩ := (O13.atVar (j := 1) rfl)
 refine D2.loadA' (cs := c19) rfl rfl ag91 sz91 (pt_px rfl p20) (RT.len _ f21) fa_nil ?_
 obtain ⟨x22, i23, h24⟩ := bd_inv h
 refine D2.lo rfl rfl (Lo.callP (ps := []) (ps' := []) rfl (fn := Tryd.f110) (by kernel_rfl) rfl (mc rfl mn) O13 (fun L' O' => g_rat_Q_whole_ok K c19 p0 f21 O' _ i23)) ?_ fa_nil ?_ ?_
 ·rintro v33 H34 ⟨G25, O26, s27, sm32, ⟨w29, rfl, f30⟩⟩; exact (faR1 (.inl (by decide)) (faR1 (.inr (sm32 _ (Or.inr ⟨1, _, rfl, List.mem_singleton.2 rfl⟩))) fa_nil))
 ·rintro v33 H34 ⟨G25, O26, s27, sm32, ⟨w29, rfl, f30⟩⟩; exact fa_nil
 rintro v33 H34 ⟨G25, O26, s27, sm32, ⟨w29, rfl, f30⟩⟩
 replace O26 : Ow G25 H34 (eVar b7 91 T_Q (Q.mk false ([] : List Int) ([] : List Int)) :: eVar b2 91 T_Q p0 :: L) := O26
 obtain ⟨x35, i36, h37⟩ := bd_inv h24
 refine D2.lo rfl rfl (Lo.callP (ps := []) (ps' := []) rfl (fn := Tryd.f66) (by kernel_rfl) rfl (mc rfl (mc rfl mn)) O26 (fun L' O' => g_nat_N_Div_ok K w16 p0.num (RT.mono _ s27 f18) w29 x22 f30 O' _ i36)) ?_ (faL_bit (by decide) fa_nil) ?_ ?_
 ·rintro v48 H49 ⟨G38, O39, s40, sm47, ⟨w42, w44, rfl, f43, f45⟩⟩; exact (faR1 (.inl (by decide)) (faR1 (.inl (by decide)) fa_nil))
 ·rintro v48 H49 ⟨G38, O39, s40, sm47, ⟨w42, w44, rfl, f43, f45⟩⟩; exact fa_nil
 rintro v48 H49 ⟨G38, O39, s40, sm47, ⟨w42, w44, rfl, f43, f45⟩⟩
 replace O39 : Ow G38 H49 (eVar b7 91 T_Q (Q.mk false ([] : List Int) ([] : List Int)) :: eVar b2 91 T_Q p0 :: L) := O39
 refine D2.q2 (.tuple #[w42, w44]) rfl (D2.pure (v := w42) rfl rfl (v_extract (oo rfl rfl) rfl) (D2.pure (v := w44) rfl rfl (v_extract (oo rfl rfl) rfl) (D2.q1 w42 rfl (D2.q1 w44 rfl (.nil (.seq ?_))))))
 refine .seq ?_
 obtain ⟨q50, h51, h52⟩ := bd_inv h37
 refine AW.midT (fun σ' H' => ∃ (y1 : Bool) (G' : GM), y1 = q50 ∧ Ow G' H' (eVar b7 91 T_Q (Q.mk false ([] : List Int) ([] : List Int)) :: eVar b2 91 T_Q p0 :: L) ∧ GM.le G38 G' ∧ σ' 19 = .bool y1) ?_ ?_
 ·refine .region (W.pure (v := (padd (.pointer (some ⟨b2, 0, none⟩)) 0)) rfl rfl (v_fldA fl91_0 (oo rfl rfl) (O39.atVar (j := 1) rfl)) (W.load1 (v := (.bool p0.neg)) (r := []) rfl rfl ag4 (pt_px rfl (At.bool (At.proj (O39.atVar (j := 1) rfl) p_Q_neg))) (W.q2 (.bool p0.neg) rfl (W.splitAt (t := 15) (b := p0.neg) rfl (fun g53 gv54 => ?_) (fun g53 gv54 => ?_)))))
  rotate_left
  ·have h56 := neg_b g53 h51
   refine W.q6 rfl gv54 (W.q6 rfl gv54 (W.q6 rfl gv54 (W.q5 (.bool false) gv54 rfl (.nil ?_))))
   obtain rfl := Option.some.inj h56
   exact ⟨false, _, rfl, O39, (GM.le.refl _), rfl⟩
  have h55 := pos_inv g53 h51
  refine W.q2 (hg := gk rfl rfl gv54 rfl) w44 rfl (W.pure (v := (.int .i64 (List.length x35.2 : Int))) (gk rfl rfl gv54 rfl) rfl (len_sl (oo rfl rfl) (sl_len f45) (elemT_inv el64)) (W.q3 (hg := gk rfl rfl gv54 rfl) (.bool (decide ((List.length x35.2 : Int) > 0))) rfl rfl (W.q4 (.bool (decide ((List.length x35.2 : Int) > 0))) gv54 rfl (.nil ?_))))
  obtain rfl := Option.some.inj h55
  exact ⟨decide ((List.length x35.2 : Int) > 0), _, rfl, O39, (GM.le.refl _), rfl⟩
 rintro σ58 H59 fr60 ⟨x57, G61, rfl, O62, s63, t65⟩
 have h66 := tu1_inv h52
 obtain ⟨q67, h68, h69⟩ := bd_inv h66
 refine AW.midT (fun σ' H' => ∃ (y1 : List Int) (G' : GM), y1 = q67 ∧ Ow G' H' (eVar b7 91 T_Q (Q.mk false ([] : List Int) ([] : List Int)) :: eVar b2 91 T_Q p0 :: L) ∧ GM.le G61 G' ∧ (rSl (rI .u32)).rep G' [σ' 3] y1) ?_ ?_
 ·refine .cond (b := x57) rfl t65 (fun g70 => ?_) (fun g70 => ?_)
  rotate_left
  ·have h106 := neg_b g70 h68
   refine .skip ?_
   obtain rfl := Option.some.inj h106
   exact ⟨x35.1, _, rfl, O62, (GM.le.refl _), (rep_at ((fr60 3 rfl).trans rfl) (RT.mono _ s63 f43))⟩
  have h71 := pos_inv g70 h68
  refine .region (W.q2 w42 ((fr60 3 rfl).trans rfl) ?_)
  obtain ⟨x72, i73, h74⟩ := bd_inv h71
  refine W.lo rfl rfl (Lo.callPF (ps := []) (pw := fun w => [eSl w 108 (rI .u32) x72]) rfl (fn := Tryd.f71) (by kernel_rfl) rfl (mc rfl mn) O62 (fun L' O' => g_nat_Of_ok K 1 O' _ i73)) ?_
  rintro v83 H84 ⟨w80, G75, O76, s77, sm82, rfl⟩
  replace O76 : Ow G75 H84 (eSl w80 108 (rI .u32) x72 :: eVar b7 91 T_Q (Q.mk false ([] : List Int) ([] : List Int)) :: eVar b2 91 T_Q p0 :: L) := O76
  obtain ⟨G85, O86, s87, f88⟩ := O76.frzSl (j := 0) rfl
  replace O86 : Ow G85 H84 (eVar b7 91 T_Q (Q.mk false ([] : List Int) ([] : List Int)) :: eVar b2 91 T_Q p0 :: L) := O86
  obtain ⟨x89, i90, h91⟩ := bd_inv h74
  refine W.lo rfl rfl (Lo.callPF (ps := []) (pw := fun w => [eSl w 108 (rI .u32) x89]) rfl (fn := Tryd.f58) (by kernel_rfl) rfl (mc rfl (mc rfl mn)) O86 (fun L' O' => g_nat_N_Add_ok K w42 x35.1 (RT.mono _ (GM.le.trans s63 (GM.le.trans s77 s87)) f43) w80 x72 f88 O' _ i90)) ?_
  rintro v100 H101 ⟨w97, G92, O93, s94, sm99, rfl⟩
  replace O93 : Ow G92 H101 (eSl w97 108 (rI .u32) x89 :: eVar b7 91 T_Q (Q.mk false ([] : List Int) ([] : List Int)) :: eVar b2 91 T_Q p0 :: L) := O93
  refine W.q1 w97 rfl (.nil ?_)
  obtain ⟨G102, O103, s104, f105⟩ := O93.frzSl (j := 0) rfl
  replace O103 : Ow G102 H101 (eVar b7 91 T_Q (Q.mk false ([] : List Int) ([] : List Int)) :: eVar b2 91 T_Q p0 :: L) := O103
  obtain rfl := Option.some.inj h91
  exact ⟨x89, _, rfl, O103, (GM.le.trans s77 (GM.le.trans s87 (GM.le.trans s94 s104))), f105⟩
 rintro σ108 H109 fr110 ⟨x107, G111, rfl, O112, s113, f115⟩
 have h116 := tu1_inv h69
 refine .seq (.draw2 (M := [0, 1, 0, 0, 15, 31]) mixed (by kernel_rfl) (by kernel_rfl) fun H117 N121 x118 F120 => ?_)
 have O119 := O112.ext x118
 refine D2.pure (v := (padd (.pointer (some ⟨b2, 0, none⟩)) 0)) rfl rfl (v_fldA fl91_0 (oo rfl ((fr110 1 rfl).trans ((fr60 1 rfl).trans rfl))) (O119.atVar (j := 1) rfl)) (D2.load1' (v := (.bool p0.neg)) (r := []) rfl rfl ag4 (pt_px rfl (At.bool (At.proj (O119.atVar (j := 1) rfl) p_Q_neg))) fa_nil (D2.q2 (σ108 3) rfl ?_))
 obtain ⟨x122, i123, h124⟩ := bd_inv h116
 refine D2.lo rfl rfl (Lo.callPF (ps := []) (pw := fun w => [eSl w 108 (rI .u32) x122]) rfl (fn := Tryd.f71) (by kernel_rfl) rfl (mc rfl mn) O119 (fun L' O' => g_nat_Of_ok K 1 O' _ i123)) ?_ fa_nil ?_ ?_
 ·rintro v133 H134 ⟨w130, G125, O126, s127, sm132, rfl⟩; exact (faR1 (.inr (sm132 _ (Or.inr ⟨1, _, rfl, List.mem_singleton.2 rfl⟩))) fa_nil)
 ·rintro v133 H134 ⟨w130, G125, O126, s127, sm132, rfl⟩; exact fa_nil
 rintro v133 H134 ⟨w130, G125, O126, s127, sm132, rfl⟩
 replace O126 : Ow G125 H134 (eSl w130 108 (rI .u32) x122 :: eVar b7 91 T_Q (Q.mk false ([] : List Int) ([] : List Int)) :: eVar b2 91 T_Q p0 :: L) := O126
 obtain ⟨G135, O136, s137, f138⟩ := O126.frzSl (j := 0) rfl
 replace O136 : Ow G135 H134 (eVar b7 91 T_Q (Q.mk false ([] : List Int) ([] : List Int)) :: eVar b2 91 T_Q p0 :: L) := O136
 obtain ⟨x139, i140, h141⟩ := bd_inv h124
 refine D2.lo rfl rfl (Lo.callP (ps := []) (ps' := []) rfl (fn := Tryd.f82) (by kernel_rfl) rfl (mc rfl (mc rfl (mc rfl mn))) O136 (fun L' O' => g_rat_low_ok K p0.neg (σ108 3) x107 (RT.mono _ (GM.le.trans s127 s137) f115) w130 x122 f138 O' _ i140)) ?_ (faL_bit (by decide) fa_nil) ?_ ?_
 ·rintro v150 H151 ⟨G142, O143, s144, sm149, ⟨c146, rfl, f147⟩⟩; exact (faR1 (.inl (by decide)) fa_nil)
 ·rintro v150 H151 ⟨G142, O143, s144, sm149, ⟨c146, rfl, f147⟩⟩; exact fa_nil
 rintro v150 H151 ⟨G142, O143, s144, sm149, ⟨c146, rfl, f147⟩⟩
 replace O143 : Ow G142 H151 (eVar b7 91 T_Q (Q.mk false ([] : List Int) ([] : List Int)) :: eVar b2 91 T_Q p0 :: L) := O143
 refine D2.lo rfl rfl (Lo.storeVar (j := 0) (s := T_Q) (y0 := x139) (v := (.agg (List.toArray c146))) (o := 0) rfl ((Put.at (Put.self _) _ _)) rfl sz91 ((fr110 2 rfl).trans ((fr60 2 rfl).trans rfl)) (by omega) rfl f147 O143) ?_ (faL_bit (by decide) (faL_bit (by decide) fa_nil)) ?_ ?_
 ·rintro v154 H155 ⟨O152, sm153⟩; exact (faR1 (.inl (by decide)) fa_nil)
 ·rintro v154 H155 ⟨O152, sm153⟩; exact fa_nil
 rintro v154 H155 ⟨O152, sm153⟩
 replace O152 : Ow G142 H155 (eVar b7 91 T_Q x139 :: eVar b2 91 T_Q p0 :: L) := O152
 refine .nil (.ret ?_)
 obtain ⟨c156, p157, f158⟩ := (O152.atVar (j := 0) rfl)
 have O159 : Ow G142 H155 (eVar b2 91 T_Q p0 :: L) := O152.drop 0
 have O160 : Ow G142 H155 (L) := O159.drop 0
 obtain rfl := Option.some.inj h141
 refine ret1R (P := Tryd.prog) (fn := Tryd.f108) (n := 28) (R := fun v H' => ∃ G', Ow G' H' (L) ∧ G.le G' ∧ ∃ (w0 : List Value), v = .agg (List.toArray w0) ∧ T_Q.rep G' w0 x139) (v1 := (.agg (List.toArray c156))) (by rfl) (rr_cellA (p := (.pointer (some ⟨b7, 0, none⟩))) (by rfl) ag91 sz91 (by exact ((fr110 2 rfl).trans ((fr60 2 rfl).trans rfl))) p157 (RT.len _ f158)) ?_
 exact ⟨_, O160, (GM.le.trans s27 (GM.le.trans s40 (GM.le.trans s63 (GM.le.trans s113 (GM.le.trans s127 (GM.le.trans s137 s144)))))), c156, rfl, f158⟩
def g_rat_Floor (K : Nat) (p0 : ByteArray) : Option (ByteArray × Int) := ((g_rat_Check K p0).bind fun x1 => (if (x1 != 0) = true then some ((⟨#[]⟩ : ByteArray), x1) else ((g_rat_In K p0).bind fun x15 => ((g_rat_Q_down K x15).bind fun x28 => ((g_rat_told K x28).bind fun x41 => some (x41.1, x41.2))))))
set_option maxHeartbeats 4000000 in
theorem g_rat_Floor_ok (K : Nat) {G : GM} {H : AH} {L : List Pc} (p0 : ByteArray) (O : Ow G H (L)) (r : ByteArray × Int) (h : g_rat_Floor K p0 = some r) :
    CR Tryd.prog 75 [(.string p0)] G H (L) (fun v G' _ => v = .tuple #[.string r.1, .int .i64 r.2]) := by
 unfold g_rat_Floor at h
 refine CR.of (calls_of_AW (n := 16) (fn := Tryd.f75) (R := fun v H' => ∃ G', Ow G' H' (L) ∧ G.le G' ∧ v = .tuple #[.string r.1, .int .i64 r.2]) (by kernel_rfl) rfl rfl ?_)
 refine .seq (.region (W.q1 (.string (⟨#[]⟩ : ByteArray)) rfl (W.q1 (.int .i64 0) rfl (.nil (.seq (.seq ?_))))))
 refine .region (W.q2 (.string p0) rfl ?_)
 obtain ⟨x1, i2, h3⟩ := bd_inv h
 refine W.lo rfl rfl (Lo.callP (ps := []) (ps' := []) rfl (fn := Tryd.f32) (by kernel_rfl) rfl (mc rfl mn) O (fun L' O' => g_rat_Check_ok K p0 O' _ i2)) ?_
 rintro v10 H11 ⟨G4, O5, s6, sm9, rfl⟩
 replace O5 : Ow G4 H11 (L) := O5
 refine W.q1 (.int .i64 x1) rfl (.nil (.seq (.region (W.q2 (.int .i64 x1) rfl (W.q3 (.bool (x1 != 0)) rfl rfl (.nil ?_))))))
 refine .cond (b := (x1 != 0)) rfl rfl (fun g12 => ?_) (fun g12 => ?_)
 ·have h13 := pos_inv g12 h3
  refine .seq (.region (W.q2 (.int .i64 x1) rfl (W.q1 (.string (⟨#[]⟩ : ByteArray)) rfl (W.q1 (.int .i64 x1) rfl (.nil (.ret ?_))))))
  obtain rfl := Option.some.inj h13
  refine ret2R (P := Tryd.prog) (fn := Tryd.f75) (n := 16) (R := fun v H' => ∃ G', Ow G' H' (L) ∧ G.le G' ∧ v = .tuple #[.string ((⟨#[]⟩ : ByteArray), x1).1, .int .i64 ((⟨#[]⟩ : ByteArray), x1).2]) (v1 := (.string (⟨#[]⟩ : ByteArray))) (v2 := (.int .i64 x1)) (by rfl) (rr_tmp (by rfl) (by exact rfl)) (rr_tmp (by rfl) (by exact rfl)) ?_
  exact ⟨_, O5, s6, rfl⟩
 have h14 := neg_b g12 h3
 refine .skip (.seq (.region (W.q2 (.string p0) rfl ?_)))
 obtain ⟨x15, i16, h17⟩ := bd_inv h14
 refine W.lo rfl rfl (Lo.callP (ps := []) (ps' := []) rfl (fn := Tryd.f89) (by kernel_rfl) rfl (mc rfl mn) O5 (fun L' O' => g_rat_In_ok K p0 O' _ i16)) ?_
 rintro v26 H27 ⟨G18, O19, s20, sm25, ⟨c22, rfl, f23⟩⟩
 replace O19 : Ow G18 H27 (L) := O19
 obtain ⟨x28, i29, h30⟩ := bd_inv h17
 refine W.lo rfl rfl (Lo.callP (ps := []) (ps' := []) rfl (fn := Tryd.f108) (by kernel_rfl) rfl (mc rfl mn) O19 (fun L' O' => g_rat_Q_down_ok K c22 x15 f23 O' _ i29)) ?_
 rintro v39 H40 ⟨G31, O32, s33, sm38, ⟨c35, rfl, f36⟩⟩
 replace O32 : Ow G31 H40 (L) := O32
 obtain ⟨x41, i42, h43⟩ := bd_inv h30
 refine W.lo rfl rfl (Lo.callP (ps := []) (ps' := []) rfl (fn := Tryd.f81) (by kernel_rfl) rfl (mc rfl mn) O32 (fun L' O' => g_rat_told_ok K c35 x28 f36 O' _ i42)) ?_
 rintro v50 H51 ⟨G44, O45, s46, sm49, rfl⟩
 replace O45 : Ow G44 H51 (L) := O45
 refine W.pure (v := (.string x41.1)) rfl rfl (v_extract (oo rfl rfl) rfl) (W.pure (v := (.int .i64 x41.2)) rfl rfl (v_extract (oo rfl rfl) rfl) (W.q1 (.string x41.1) rfl (W.q1 (.int .i64 x41.2) rfl (.nil (.ret ?_)))))
 obtain rfl := Option.some.inj h43
 refine ret2R (P := Tryd.prog) (fn := Tryd.f75) (n := 16) (R := fun v H' => ∃ G', Ow G' H' (L) ∧ G.le G' ∧ v = .tuple #[.string (x41.1, x41.2).1, .int .i64 (x41.1, x41.2).2]) (v1 := (.string x41.1)) (v2 := (.int .i64 x41.2)) (by rfl) (rr_tmp (by rfl) (by exact rfl)) (rr_tmp (by rfl) (by exact rfl)) ?_
 exact ⟨_, O45, (GM.le.trans s6 (GM.le.trans s20 (GM.le.trans s33 s46))), rfl⟩
def g_rat_Ceil (K : Nat) (p0 : ByteArray) : Option (ByteArray × Int) := ((g_rat_Check K p0).bind fun x1 => (if (x1 != 0) = true then some ((⟨#[]⟩ : ByteArray), x1) else ((g_rat_In K p0).bind fun x15 => ((g_rat_Q_Neg K x15).bind fun x28 => ((g_rat_Q_down K x28).bind fun x41 => ((g_rat_Q_Neg K x41).bind fun x54 => ((g_rat_told K x54).bind fun x67 => some (x67.1, x67.2))))))))
set_option maxHeartbeats 4000000 in
theorem g_rat_Ceil_ok (K : Nat) {G : GM} {H : AH} {L : List Pc} (p0 : ByteArray) (O : Ow G H (L)) (r : ByteArray × Int) (h : g_rat_Ceil K p0 = some r) :
    CR Tryd.prog 76 [(.string p0)] G H (L) (fun v G' _ => v = .tuple #[.string r.1, .int .i64 r.2]) := by
 unfold g_rat_Ceil at h
 refine CR.of (calls_of_AW (n := 18) (fn := Tryd.f76) (R := fun v H' => ∃ G', Ow G' H' (L) ∧ G.le G' ∧ v = .tuple #[.string r.1, .int .i64 r.2]) (by kernel_rfl) rfl rfl ?_)
 refine .seq (.region (W.q1 (.string (⟨#[]⟩ : ByteArray)) rfl (W.q1 (.int .i64 0) rfl (.nil (.seq (.seq ?_))))))
 refine .region (W.q2 (.string p0) rfl ?_)
 obtain ⟨x1, i2, h3⟩ := bd_inv h
 refine W.lo rfl rfl (Lo.callP (ps := []) (ps' := []) rfl (fn := Tryd.f32) (by kernel_rfl) rfl (mc rfl mn) O (fun L' O' => g_rat_Check_ok K p0 O' _ i2)) ?_
 rintro v10 H11 ⟨G4, O5, s6, sm9, rfl⟩
 replace O5 : Ow G4 H11 (L) := O5
 refine W.q1 (.int .i64 x1) rfl (.nil (.seq (.region (W.q2 (.int .i64 x1) rfl (W.q3 (.bool (x1 != 0)) rfl rfl (.nil ?_))))))
 refine .cond (b := (x1 != 0)) rfl rfl (fun g12 => ?_) (fun g12 => ?_)
 ·have h13 := pos_inv g12 h3
  refine .seq (.region (W.q2 (.int .i64 x1) rfl (W.q1 (.string (⟨#[]⟩ : ByteArray)) rfl (W.q1 (.int .i64 x1) rfl (.nil (.ret ?_))))))
  obtain rfl := Option.some.inj h13
  refine ret2R (P := Tryd.prog) (fn := Tryd.f76) (n := 18) (R := fun v H' => ∃ G', Ow G' H' (L) ∧ G.le G' ∧ v = .tuple #[.string ((⟨#[]⟩ : ByteArray), x1).1, .int .i64 ((⟨#[]⟩ : ByteArray), x1).2]) (v1 := (.string (⟨#[]⟩ : ByteArray))) (v2 := (.int .i64 x1)) (by rfl) (rr_tmp (by rfl) (by exact rfl)) (rr_tmp (by rfl) (by exact rfl)) ?_
  exact ⟨_, O5, s6, rfl⟩
 have h14 := neg_b g12 h3
 refine .skip (.seq (.region (W.q2 (.string p0) rfl ?_)))
 obtain ⟨x15, i16, h17⟩ := bd_inv h14
 refine W.lo rfl rfl (Lo.callP (ps := []) (ps' := []) rfl (fn := Tryd.f89) (by kernel_rfl) rfl (mc rfl mn) O5 (fun L' O' => g_rat_In_ok K p0 O' _ i16)) ?_
 rintro v26 H27 ⟨G18, O19, s20, sm25, ⟨c22, rfl, f23⟩⟩
 replace O19 : Ow G18 H27 (L) := O19
 obtain ⟨x28, i29, h30⟩ := bd_inv h17
 refine W.lo rfl rfl (Lo.callP (ps := []) (ps' := []) rfl (fn := Tryd.f90) (by kernel_rfl) rfl (mc rfl mn) O19 (fun L' O' => g_rat_Q_Neg_ok K c22 x15 f23 O' _ i29)) ?_
 rintro v39 H40 ⟨G31, O32, s33, sm38, ⟨c35, rfl, f36⟩⟩
 replace O32 : Ow G31 H40 (L) := O32
 obtain ⟨x41, i42, h43⟩ := bd_inv h30
 refine W.lo rfl rfl (Lo.callP (ps := []) (ps' := []) rfl (fn := Tryd.f108) (by kernel_rfl) rfl (mc rfl mn) O32 (fun L' O' => g_rat_Q_down_ok K c35 x28 f36 O' _ i42)) ?_
 rintro v52 H53 ⟨G44, O45, s46, sm51, ⟨c48, rfl, f49⟩⟩
 replace O45 : Ow G44 H53 (L) := O45
 obtain ⟨x54, i55, h56⟩ := bd_inv h43
 refine W.lo rfl rfl (Lo.callP (ps := []) (ps' := []) rfl (fn := Tryd.f90) (by kernel_rfl) rfl (mc rfl mn) O45 (fun L' O' => g_rat_Q_Neg_ok K c48 x41 f49 O' _ i55)) ?_
 rintro v65 H66 ⟨G57, O58, s59, sm64, ⟨c61, rfl, f62⟩⟩
 replace O58 : Ow G57 H66 (L) := O58
 obtain ⟨x67, i68, h69⟩ := bd_inv h56
 refine W.lo rfl rfl (Lo.callP (ps := []) (ps' := []) rfl (fn := Tryd.f81) (by kernel_rfl) rfl (mc rfl mn) O58 (fun L' O' => g_rat_told_ok K c61 x54 f62 O' _ i68)) ?_
 rintro v76 H77 ⟨G70, O71, s72, sm75, rfl⟩
 replace O71 : Ow G70 H77 (L) := O71
 refine W.pure (v := (.string x67.1)) rfl rfl (v_extract (oo rfl rfl) rfl) (W.pure (v := (.int .i64 x67.2)) rfl rfl (v_extract (oo rfl rfl) rfl) (W.q1 (.string x67.1) rfl (W.q1 (.int .i64 x67.2) rfl (.nil (.ret ?_)))))
 obtain rfl := Option.some.inj h69
 refine ret2R (P := Tryd.prog) (fn := Tryd.f76) (n := 18) (R := fun v H' => ∃ G', Ow G' H' (L) ∧ G.le G' ∧ v = .tuple #[.string (x67.1, x67.2).1, .int .i64 (x67.1, x67.2).2]) (v1 := (.string x67.1)) (v2 := (.int .i64 x67.2)) (by rfl) (rr_tmp (by rfl) (by exact rfl)) (rr_tmp (by rfl) (by exact rfl)) ?_
 exact ⟨_, O71, (GM.le.trans s6 (GM.le.trans s20 (GM.le.trans s33 (GM.le.trans s46 (GM.le.trans s59 s72))))), rfl⟩
theorem bd_Q_1_2 {G : GM} (v1 : Value) {x1 : List Int} (v2 : Value) {x2 : List Int} (h1 : (rSl (rI .u32)).rep G v1.cells.toList x1) (h2 : (rSl (rI .u32)).rep G v2.cells.toList x2) : ∃ cs : List Value, (∀ {s : List Value} {d : Tmp} {ty : TypeId} {pos : String} {af : Array Edge} {g : Option (Nat × Bool)} {ps : Array (Nat × Operand)}, opndP s ps.toList = some [(1, v1), (2, v2)] → apure Tryd.prog s ⟨some d, .build 91 ps, ty, pos, af, g⟩ = some (.agg (List.toArray cs))) ∧ T_Q.rep G cs (Q.mk false x1 x2) := by
  have k1 := (u_Q_num G _ _ _ _ (z_Q G) h1).1
  have k2 := (u_Q_den G _ _ _ _ (k1) h2).1
  refine ⟨_, fun {s d ty pos af g ps} hps => v_buildS pl91 ze91 zo91 hps ?_, k2⟩
  refine (fill_cons' (off := 1) (sz := 1) (cs := _) rfl (RT.len _ h1) (Nat.le_trans (Nat.le_of_ble_eq_true (m := 3) rfl) (Nat.le_of_eq (RT.len _ (z_Q G)).symm))).trans ?_
  refine (fill_cons' (off := 2) (sz := 1) (cs := _) rfl (RT.len _ h2) (Nat.le_trans (Nat.le_of_ble_eq_true (m := 3) rfl) (Nat.le_of_eq (RT.len _ (k1)).symm))).trans ?_
  rfl
def g_rat_Int (K : Nat) (p0 : Int) : Option Q := (if (decide (p0 < 0)) = true then ((g_nat_Of K (kwrap .i64 (-p0))).bind fun x8 => ((g_nat_Of K 1).bind fun x21 => some (Q.mk true x8 x21))) else ((g_nat_Of K p0).bind fun x54 => ((g_nat_Of K 1).bind fun x67 => some (Q.mk false x54 x67))))
set_option maxHeartbeats 4000000 in
theorem g_rat_Int_ok (K : Nat) {G : GM} {H : AH} {L : List Pc} (p0 : Int) (O : Ow G H (L)) (r : Q) (h : g_rat_Int K p0 = some r) :
    CR Tryd.prog 109 [(.int .i64 p0)] G H (L) (fun v G' _ => ∃ (w0 : List Value), v = .agg (List.toArray w0) ∧ T_Q.rep G' w0 r) := by
 unfold g_rat_Int at h
 refine CR.of (calls_of_AW (n := 14) (fn := Tryd.f109) (R := fun v H' => ∃ G', Ow G' H' (L) ∧ G.le G' ∧ ∃ (w0 : List Value), v = .agg (List.toArray w0) ∧ T_Q.rep G' w0 r) (by kernel_rfl) rfl rfl ?_)
 refine .seq (.region (W.lo rfl rfl (Lo.alloc (r := T_Q) (x0 := (Q.mk false ([] : List Int) ([] : List Int))) ze91 (by kernel_rfl) z_Q O) ?_))
 rintro v4 H5 ⟨b2, rfl, O1, sm3⟩
 refine .nil (.seq (.seq (.region (W.q2 (.int .i64 p0) rfl (W.q3 (.bool (decide (p0 < 0))) rfl rfl (.nil ?_))))))
 refine .cond (b := decide (p0 < 0)) rfl rfl (fun g6 => ?_) (fun g6 => ?_)
 rotate_left
 ·have h53 := neg_b g6 h
  refine .skip (.seq (.region (W.q2 (.int .i64 p0) rfl ?_)))
  obtain ⟨x54, i55, h56⟩ := bd_inv h53
  refine W.lo rfl rfl (Lo.callPF (ps := []) (pw := fun w => [eSl w 108 (rI .u32) x54]) rfl (fn := Tryd.f71) (by kernel_rfl) rfl (mc rfl mn) O1 (fun L' O' => g_nat_Of_ok K p0 O' _ i55)) ?_
  rintro v65 H66 ⟨w62, G57, O58, s59, sm64, rfl⟩
  replace O58 : Ow G57 H66 (eSl w62 108 (rI .u32) x54 :: eVar b2 91 T_Q (Q.mk false ([] : List Int) ([] : List Int)) :: L) := O58
  obtain ⟨x67, i68, h69⟩ := bd_inv h56
  refine W.lo rfl rfl (Lo.callPF (ps := []) (pw := fun w => [eSl w 108 (rI .u32) x67]) rfl (fn := Tryd.f71) (by kernel_rfl) rfl (mc rfl mn) O58 (fun L' O' => g_nat_Of_ok K 1 O' _ i68)) ?_
  rintro v78 H79 ⟨w75, G70, O71, s72, sm77, rfl⟩
  replace O71 : Ow G70 H79 (eSl w75 108 (rI .u32) x67 :: eSl w62 108 (rI .u32) x54 :: eVar b2 91 T_Q (Q.mk false ([] : List Int) ([] : List Int)) :: L) := O71
  obtain ⟨G80, O81, s82, f83⟩ := O71.frzSl (j := 1) rfl
  replace O81 : Ow G80 H79 (eSl w75 108 (rI .u32) x67 :: eVar b2 91 T_Q (Q.mk false ([] : List Int) ([] : List Int)) :: L) := O81
  obtain ⟨G84, O85, s86, f87⟩ := O81.frzSl (j := 0) rfl
  replace O85 : Ow G84 H79 (eVar b2 91 T_Q (Q.mk false ([] : List Int) ([] : List Int)) :: L) := O85
  obtain ⟨c88, e90, f89⟩ := bd_Q_1_2 (w62) (w75) ((sl_cells (RT.mono _ s86 f83))) ((sl_cells f87))
  refine W.pure (v := .agg (List.toArray c88)) rfl rfl (e90 (opndP_oo rfl (qc' rfl (qc' rfl qn')))) (W.lo rfl rfl (Lo.storeVar (j := 0) (s := T_Q) (y0 := (Q.mk false x54 x67)) (v := (.agg (List.toArray c88))) (o := 0) rfl ((Put.at (Put.self _) _ _)) rfl sz91 rfl (by omega) rfl f89 O85) ?_)
  rintro v93 H94 ⟨O91, sm92⟩
  replace O91 : Ow G84 H94 (eVar b2 91 T_Q (Q.mk false x54 x67) :: L) := O91
  refine .nil (.ret ?_)
  obtain ⟨c95, p96, f97⟩ := (O91.atVar (j := 0) rfl)
  have O98 : Ow G84 H94 (L) := O91.drop 0
  obtain rfl := Option.some.inj h69
  refine ret1R (P := Tryd.prog) (fn := Tryd.f109) (n := 14) (R := fun v H' => ∃ G', Ow G' H' (L) ∧ G.le G' ∧ ∃ (w0 : List Value), v = .agg (List.toArray w0) ∧ T_Q.rep G' w0 (Q.mk false x54 x67)) (v1 := (.agg (List.toArray c95))) (by rfl) (rr_cellA (p := (.pointer (some ⟨b2, 0, none⟩))) (by rfl) ag91 sz91 (by exact rfl) p96 (RT.len _ f97)) ?_
  exact ⟨_, O98, (GM.le.trans s59 (GM.le.trans s72 (GM.le.trans s82 s86))), c95, rfl, f97⟩
 have h7 := pos_inv g6 h
 refine .seq (.region (W.q2 (.int .i64 p0) rfl (W.pure (v := (.int .i64 (kwrap .i64 (-p0)))) rfl rfl (v_neg (oo rfl rfl)) ?_)))
 obtain ⟨x8, i9, h10⟩ := bd_inv h7
 refine W.lo rfl rfl (Lo.callPF (ps := []) (pw := fun w => [eSl w 108 (rI .u32) x8]) rfl (fn := Tryd.f71) (by kernel_rfl) rfl (mc rfl mn) O1 (fun L' O' => g_nat_Of_ok K (kwrap .i64 (-p0)) O' _ i9)) ?_
 rintro v19 H20 ⟨w16, G11, O12, s13, sm18, rfl⟩
 replace O12 : Ow G11 H20 (eSl w16 108 (rI .u32) x8 :: eVar b2 91 T_Q (Q.mk false ([] : List Int) ([] : List Int)) :: L) := O12
 obtain ⟨x21, i22, h23⟩ := bd_inv h10
 refine W.lo rfl rfl (Lo.callPF (ps := []) (pw := fun w => [eSl w 108 (rI .u32) x21]) rfl (fn := Tryd.f71) (by kernel_rfl) rfl (mc rfl mn) O12 (fun L' O' => g_nat_Of_ok K 1 O' _ i22)) ?_
 rintro v32 H33 ⟨w29, G24, O25, s26, sm31, rfl⟩
 replace O25 : Ow G24 H33 (eSl w29 108 (rI .u32) x21 :: eSl w16 108 (rI .u32) x8 :: eVar b2 91 T_Q (Q.mk false ([] : List Int) ([] : List Int)) :: L) := O25
 obtain ⟨G34, O35, s36, f37⟩ := O25.frzSl (j := 1) rfl
 replace O35 : Ow G34 H33 (eSl w29 108 (rI .u32) x21 :: eVar b2 91 T_Q (Q.mk false ([] : List Int) ([] : List Int)) :: L) := O35
 obtain ⟨G38, O39, s40, f41⟩ := O35.frzSl (j := 0) rfl
 replace O39 : Ow G38 H33 (eVar b2 91 T_Q (Q.mk false ([] : List Int) ([] : List Int)) :: L) := O39
 obtain ⟨c42, e44, f43⟩ := bd_Q_0_1_2 ((.bool true)) (w16) (w29) (rfl) ((sl_cells (RT.mono _ s40 f37))) ((sl_cells f41))
 refine W.pure (v := .agg (List.toArray c42)) rfl rfl (e44 (opndP_oo rfl (qc' rfl (qc' rfl (qc' rfl qn'))))) (W.lo rfl rfl (Lo.storeVar (j := 0) (s := T_Q) (y0 := (Q.mk true x8 x21)) (v := (.agg (List.toArray c42))) (o := 0) rfl ((Put.at (Put.self _) _ _)) rfl sz91 rfl (by omega) rfl f43 O39) ?_)
 rintro v47 H48 ⟨O45, sm46⟩
 replace O45 : Ow G38 H48 (eVar b2 91 T_Q (Q.mk true x8 x21) :: L) := O45
 refine .nil (.ret ?_)
 obtain ⟨c49, p50, f51⟩ := (O45.atVar (j := 0) rfl)
 have O52 : Ow G38 H48 (L) := O45.drop 0
 obtain rfl := Option.some.inj h23
 refine ret1R (P := Tryd.prog) (fn := Tryd.f109) (n := 14) (R := fun v H' => ∃ G', Ow G' H' (L) ∧ G.le G' ∧ ∃ (w0 : List Value), v = .agg (List.toArray w0) ∧ T_Q.rep G' w0 (Q.mk true x8 x21)) (v1 := (.agg (List.toArray c49))) (by rfl) (rr_cellA (p := (.pointer (some ⟨b2, 0, none⟩))) (by rfl) ag91 sz91 (by exact rfl) p50 (RT.len _ f51)) ?_
 exact ⟨_, O52, (GM.le.trans s13 (GM.le.trans s26 (GM.le.trans s36 s40))), c49, rfl, f51⟩
def g_rat_Round (K : Nat) (p0 : ByteArray) : Option (ByteArray × Int) := ((g_rat_Check K p0).bind fun x1 => (if (x1 != 0) = true then some ((⟨#[]⟩ : ByteArray), x1) else ((g_rat_In K p0).bind fun x15 => ((g_rat_Q_down K x15).bind fun x40 => ((g_rat_Q_Sub K x15 x40).bind fun x68 => ((g_rat_Int K 1).bind fun x81 => ((g_rat_Int K 2).bind fun x94 => ((g_rat_Q_Quo K x81 x94).bind fun x107 => ((g_rat_Q_Cmp K x68 x107).bind fun x120 => ((g_nat_Of K 2).bind fun x139 => ((g_nat_N_Div K x40.num x139).bind fun x156 => (Option.bind ((if (decide (x120 > 0)) = true then some true else (if (x120 == 0) = true then some (decide ((List.length x156.2 : Int) > 0)) else some false))) (tu1 fun x182 => (Option.bind ((if x182 = true then ((g_rat_Int K 1).bind fun x205 => ((g_rat_Q_Add K x40 x205).bind fun x218 => some x218)) else some x40)) (tu1 fun x236 => ((g_rat_told K x236).bind fun x248 => some (x248.1, x248.2)))))))))))))))))
set_option maxHeartbeats 4000000 in
theorem g_rat_Round_ok (K : Nat) {G : GM} {H : AH} {L : List Pc} (p0 : ByteArray) (O : Ow G H (L)) (r : ByteArray × Int) (h : g_rat_Round K p0 = some r) :
    CR Tryd.prog 77 [(.string p0)] G H (L) (fun v G' _ => v = .tuple #[.string r.1, .int .i64 r.2]) := by
 unfold g_rat_Round at h
 refine CR.of (calls_of_AW (n := 51) (fn := Tryd.f77) (R := fun v H' => ∃ G', Ow G' H' (L) ∧ G.le G' ∧ v = .tuple #[.string r.1, .int .i64 r.2]) (by kernel_rfl) rfl rfl ?_)
 refine .seq (.region (W.q1 (.string (⟨#[]⟩ : ByteArray)) rfl (W.q1 (.int .i64 0) rfl (.nil (.seq (.seq ?_))))))
 refine .region (W.q2 (.string p0) rfl ?_)
 obtain ⟨x1, i2, h3⟩ := bd_inv h
 refine W.lo rfl rfl (Lo.callP (ps := []) (ps' := []) rfl (fn := Tryd.f32) (by kernel_rfl) rfl (mc rfl mn) O (fun L' O' => g_rat_Check_ok K p0 O' _ i2)) ?_
 rintro v10 H11 ⟨G4, O5, s6, sm9, rfl⟩
 replace O5 : Ow G4 H11 (L) := O5
 refine W.q1 (.int .i64 x1) rfl (.nil (.seq (.region (W.q2 (.int .i64 x1) rfl (W.q3 (.bool (x1 != 0)) rfl rfl (.nil ?_))))))
 refine .cond (b := (x1 != 0)) rfl rfl (fun g12 => ?_) (fun g12 => ?_)
 ·have h13 := pos_inv g12 h3
  refine .seq (.region (W.q2 (.int .i64 x1) rfl (W.q1 (.string (⟨#[]⟩ : ByteArray)) rfl (W.q1 (.int .i64 x1) rfl (.nil (.ret ?_))))))
  obtain rfl := Option.some.inj h13
  refine ret2R (P := Tryd.prog) (fn := Tryd.f77) (n := 51) (R := fun v H' => ∃ G', Ow G' H' (L) ∧ G.le G' ∧ v = .tuple #[.string ((⟨#[]⟩ : ByteArray), x1).1, .int .i64 ((⟨#[]⟩ : ByteArray), x1).2]) (v1 := (.string (⟨#[]⟩ : ByteArray))) (v2 := (.int .i64 x1)) (by rfl) (rr_tmp (by rfl) (by exact rfl)) (rr_tmp (by rfl) (by exact rfl)) ?_
  exact ⟨_, O5, s6, rfl⟩
 have h14 := neg_b g12 h3
 refine .skip (.seq (.region (W.q2 (.string p0) rfl ?_)))
 obtain ⟨x15, i16, h17⟩ := bd_inv h14
 refine W.lo rfl rfl (Lo.callP (ps := []) (ps' := []) rfl (fn := Tryd.f89) (by kernel_rfl) rfl (mc rfl mn) O5 (fun L' O' => g_rat_In_ok K p0 O' _ i16)) ?_
 rintro v26 H27 ⟨G18, O19, s20, sm25, ⟨c22, rfl, f23⟩⟩
 replace O19 : Ow G18 H27 (L) := O19
 refine W.lo rfl rfl (Lo.alloc (r := T_Q) (x0 := (Q.mk false ([] : List Int) ([] : List Int))) ze91 (by kernel_rfl) z_Q O19) ?_
 rintro v31 H32 ⟨b29, rfl, O28, sm30⟩
 refine W.lo rfl rfl (Lo.storeVar (j := 0) (s := T_Q) (y0 := x15) (v := (.agg (List.toArray c22))) (o := 0) rfl ((Put.at (Put.self _) _ _)) rfl sz91 rfl (by omega) rfl f23 O28) ?_
 rintro v35 H36 ⟨O33, sm34⟩
 replace O33 : Ow G18 H36 (eVar b29 91 T_Q x15 :: L) := O33
 refine .nil (.seq (.region ?_))
 obtain ⟨c37, p38, f39⟩ := (O33.atVar (j := 0) rfl)
 refine W.loadA (cs := c37) rfl rfl ag91 sz91 (pt_px rfl p38) (RT.len _ f39) ?_
 obtain ⟨x40, i41, h42⟩ := bd_inv h17
 refine W.lo rfl rfl (Lo.callP (ps := []) (ps' := []) rfl (fn := Tryd.f108) (by kernel_rfl) rfl (mc rfl mn) O33 (fun L' O' => g_rat_Q_down_ok K c37 x15 f39 O' _ i41)) ?_
 rintro v51 H52 ⟨G43, O44, s45, sm50, ⟨c47, rfl, f48⟩⟩
 replace O44 : Ow G43 H52 (eVar b29 91 T_Q x15 :: L) := O44
 refine W.lo rfl rfl (Lo.alloc (r := T_Q) (x0 := (Q.mk false ([] : List Int) ([] : List Int))) ze91 (by kernel_rfl) z_Q O44) ?_
 rintro v56 H57 ⟨b54, rfl, O53, sm55⟩
 refine W.lo rfl rfl (Lo.storeVar (j := 0) (s := T_Q) (y0 := x40) (v := (.agg (List.toArray c47))) (o := 0) rfl ((Put.at (Put.self _) _ _)) rfl sz91 rfl (by omega) rfl f48 O53) ?_
 rintro v60 H61 ⟨O58, sm59⟩
 replace O58 : Ow G43 H61 (eVar b54 91 T_Q x40 :: eVar b29 91 T_Q x15 :: L) := O58
 refine .nil (.seq (.region ?_))
 obtain ⟨c62, p63, f64⟩ := (O58.atVar (j := 1) rfl)
 refine W.loadA (cs := c62) rfl rfl ag91 sz91 (pt_px rfl p63) (RT.len _ f64) ?_
 obtain ⟨c65, p66, f67⟩ := (O58.atVar (j := 0) rfl)
 refine W.loadA (cs := c65) rfl rfl ag91 sz91 (pt_px rfl p66) (RT.len _ f67) ?_
 obtain ⟨x68, i69, h70⟩ := bd_inv h42
 refine W.lo rfl rfl (Lo.callP (ps := []) (ps' := []) rfl (fn := Tryd.f88) (by kernel_rfl) rfl (mc rfl (mc rfl mn)) O58 (fun L' O' => g_rat_Q_Sub_ok K c62 x15 f64 c65 x40 f67 O' _ i69)) ?_
 rintro v79 H80 ⟨G71, O72, s73, sm78, ⟨c75, rfl, f76⟩⟩
 replace O72 : Ow G71 H80 (eVar b54 91 T_Q x40 :: eVar b29 91 T_Q x15 :: L) := O72
 obtain ⟨x81, i82, h83⟩ := bd_inv h70
 refine W.lo rfl rfl (Lo.callP (ps := []) (ps' := []) rfl (fn := Tryd.f109) (by kernel_rfl) rfl (mc rfl mn) O72 (fun L' O' => g_rat_Int_ok K 1 O' _ i82)) ?_
 rintro v92 H93 ⟨G84, O85, s86, sm91, ⟨c88, rfl, f89⟩⟩
 replace O85 : Ow G84 H93 (eVar b54 91 T_Q x40 :: eVar b29 91 T_Q x15 :: L) := O85
 obtain ⟨x94, i95, h96⟩ := bd_inv h83
 refine W.lo rfl rfl (Lo.callP (ps := []) (ps' := []) rfl (fn := Tryd.f109) (by kernel_rfl) rfl (mc rfl mn) O85 (fun L' O' => g_rat_Int_ok K 2 O' _ i95)) ?_
 rintro v105 H106 ⟨G97, O98, s99, sm104, ⟨c101, rfl, f102⟩⟩
 replace O98 : Ow G97 H106 (eVar b54 91 T_Q x40 :: eVar b29 91 T_Q x15 :: L) := O98
 obtain ⟨x107, i108, h109⟩ := bd_inv h96
 refine W.lo rfl rfl (Lo.callP (ps := []) (ps' := []) rfl (fn := Tryd.f93) (by kernel_rfl) rfl (mc rfl (mc rfl mn)) O98 (fun L' O' => g_rat_Q_Quo_ok K c88 x81 (RT.mono _ s99 f89) c101 x94 f102 O' _ i108)) ?_
 rintro v118 H119 ⟨G110, O111, s112, sm117, ⟨c114, rfl, f115⟩⟩
 replace O111 : Ow G110 H119 (eVar b54 91 T_Q x40 :: eVar b29 91 T_Q x15 :: L) := O111
 obtain ⟨x120, i121, h122⟩ := bd_inv h109
 refine W.lo rfl rfl (Lo.callP (ps := []) (ps' := []) rfl (fn := Tryd.f95) (by kernel_rfl) rfl (mc rfl (mc rfl mn)) O111 (fun L' O' => g_rat_Q_Cmp_ok K c75 x68 (RT.mono _ (GM.le.trans s86 (GM.le.trans s99 s112)) f76) c114 x107 f115 O' _ i121)) ?_
 rintro v129 H130 ⟨G123, O124, s125, sm128, rfl⟩
 replace O124 : Ow G123 H130 (eVar b54 91 T_Q x40 :: eVar b29 91 T_Q x15 :: L) := O124
 refine W.q1 (.int .i64 x120) rfl (.nil (.seq (.draw2 (M := [0, 1, 0, 7, 15, 31, 31, 63, 255]) mixed (by kernel_rfl) (by kernel_rfl) fun H131 N135 x132 F134 => ?_)))
 have O133 := O124.ext x132
 refine D2.pure (v := (padd (.pointer (some ⟨b54, 0, none⟩)) 1)) rfl rfl (v_fldA fl91_1 (oo rfl rfl) (O133.atVar (j := 0) rfl)) ?_
 obtain ⟨w136, p137, f138⟩ := At.sl (At.proj (O133.atVar (j := 0) rfl) p_Q_num)
 refine D2.load1' (v := w136) (r := []) rfl rfl ag64 (pt_px rfl p137) fa_nil ?_
 obtain ⟨x139, i140, h141⟩ := bd_inv h122
 refine D2.lo rfl rfl (Lo.callPF (ps := []) (pw := fun w => [eSl w 108 (rI .u32) x139]) rfl (fn := Tryd.f71) (by kernel_rfl) rfl (mc rfl mn) O133 (fun L' O' => g_nat_Of_ok K 2 O' _ i140)) ?_ fa_nil ?_ ?_
 ·rintro v150 H151 ⟨w147, G142, O143, s144, sm149, rfl⟩; exact (faR1 (.inr (sm149 _ (Or.inr ⟨0, _, rfl, List.mem_singleton.2 rfl⟩))) fa_nil)
 ·rintro v150 H151 ⟨w147, G142, O143, s144, sm149, rfl⟩; exact fa_nil
 rintro v150 H151 ⟨w147, G142, O143, s144, sm149, rfl⟩
 replace O143 : Ow G142 H151 (eSl w147 108 (rI .u32) x139 :: eVar b54 91 T_Q x40 :: eVar b29 91 T_Q x15 :: L) := O143
 obtain ⟨G152, O153, s154, f155⟩ := O143.frzSl (j := 0) rfl
 replace O153 : Ow G152 H151 (eVar b54 91 T_Q x40 :: eVar b29 91 T_Q x15 :: L) := O153
 obtain ⟨x156, i157, h158⟩ := bd_inv h141
 refine D2.lo rfl rfl (Lo.callP (ps := []) (ps' := []) rfl (fn := Tryd.f66) (by kernel_rfl) rfl (mc rfl (mc rfl mn)) O153 (fun L' O' => g_nat_N_Div_ok K w136 x40.num (RT.mono _ (GM.le.trans s144 s154) f138) w147 x139 f155 O' _ i157)) ?_ (faL_bit (by decide) fa_nil) ?_ ?_
 ·rintro v169 H170 ⟨G159, O160, s161, sm168, ⟨w163, w165, rfl, f164, f166⟩⟩; exact (faR1 (.inl (by decide)) fa_nil)
 ·rintro v169 H170 ⟨G159, O160, s161, sm168, ⟨w163, w165, rfl, f164, f166⟩⟩; exact fa_nil
 rintro v169 H170 ⟨G159, O160, s161, sm168, ⟨w163, w165, rfl, f164, f166⟩⟩
 replace O160 : Ow G159 H170 (eVar b54 91 T_Q x40 :: eVar b29 91 T_Q x15 :: L) := O160
 refine D2.q2 (.tuple #[w163, w165]) rfl (D2.pure (v := w163) rfl rfl (v_extract (oo rfl rfl) rfl) (D2.pure (v := w165) rfl rfl (v_extract (oo rfl rfl) rfl) (D2.q1 w163 rfl (D2.q1 w165 rfl (.nil (.seq ?_))))))
 refine .seq ?_
 obtain ⟨q171, h172, h173⟩ := bd_inv h158
 refine AW.midT (fun σ' H' => ∃ (y1 : Bool) (G' : GM), y1 = q171 ∧ Ow G' H' (eVar b54 91 T_Q x40 :: eVar b29 91 T_Q x15 :: L) ∧ GM.le G159 G' ∧ σ' 43 = .bool y1) ?_ ?_
 ·refine .region (W.q2 (.int .i64 x120) rfl (W.q3 (.bool (decide (x120 > 0))) rfl rfl (W.q2 (.bool (decide (x120 > 0))) rfl (W.splitAt (t := 35) (b := decide (x120 > 0)) rfl (fun g174 gv175 => ?_) (fun g174 gv175 => ?_)))))
  ·have h176 := pos_inv g174 h172
   refine W.q6 rfl gv175 (W.q6 rfl gv175 (W.q6 rfl gv175 (W.skipU rfl rfl rfl rfl (W.skipU rfl rfl rfl rfl (W.skipU rfl rfl rfl rfl (W.q6 rfl gv175 ?_))))))
   refine W.q4 (.bool true) gv175 rfl (.nil ?_)
   obtain rfl := Option.some.inj h176
   exact ⟨true, _, rfl, O160, (GM.le.refl _), rfl⟩
  have h177 := neg_b g174 h172
  refine W.q2 (hg := gk rfl rfl gv175 rfl) (.int .i64 x120) rfl (W.q3 (hg := gk rfl rfl gv175 rfl) (.bool (x120 == 0)) rfl rfl (W.q2 (hg := gk rfl rfl gv175 rfl) (.bool (x120 == 0)) rfl (W.splitAt (t := 38) (b := (x120 == 0)) rfl (fun g178 gv179 => ?_) (fun g178 gv179 => ?_))))
  rotate_left
  ·have h181 := neg_b g178 h177
   refine W.q6 rfl gv179 (W.q6 rfl gv179 (W.q6 rfl gv179 (W.q5 (hg := gk rfl rfl gv175 rfl) (.bool false) gv179 rfl (W.q5 (.bool false) gv175 rfl (.nil ?_)))))
   obtain rfl := Option.some.inj h181
   exact ⟨false, _, rfl, O160, (GM.le.refl _), rfl⟩
  have h180 := pos_inv g178 h177
  refine W.q2 (hg := gk rfl rfl gv179 rfl) w165 rfl (W.pure (v := (.int .i64 (List.length x156.2 : Int))) (gk rfl rfl gv179 rfl) rfl (len_sl (oo rfl rfl) (sl_len f166) (elemT_inv el64)) (W.q3 (hg := gk rfl rfl gv179 rfl) (.bool (decide ((List.length x156.2 : Int) > 0))) rfl rfl (W.q4 (hg := gk rfl rfl gv175 rfl) (.bool (decide ((List.length x156.2 : Int) > 0))) gv179 rfl (W.q5 (.bool (decide ((List.length x156.2 : Int) > 0))) gv175 rfl (.nil ?_)))))
  obtain rfl := Option.some.inj h180
  exact ⟨decide ((List.length x156.2 : Int) > 0), _, rfl, O160, (GM.le.refl _), rfl⟩
 rintro σ183 H184 fr185 ⟨x182, G186, rfl, O187, s188, t190⟩
 have h191 := tu1_inv h173
 obtain ⟨q192, h193, h194⟩ := bd_inv h191
 refine AW.midT (fun σ' H' => ∃ (y1 : Q) (G' : GM), y1 = q192 ∧ Ow G' H' (eVar b54 91 T_Q y1 :: eVar b29 91 T_Q x15 :: L) ∧ GM.le G186 G') ?_ ?_
 rotate_left
 ·rintro σ237 H238 fr239 ⟨x236, G240, rfl, O241, s242⟩
  have h244 := tu1_inv h194
  refine .seq (.region ?_)
  obtain ⟨c245, p246, f247⟩ := (O241.atVar (j := 0) rfl)
  refine W.loadA (cs := c245) rfl rfl ag91 sz91 (pt_px ((fr239 6 rfl).trans ((fr185 6 rfl).trans rfl)) p246) (RT.len _ f247) ?_
  obtain ⟨x248, i249, h250⟩ := bd_inv h244
  refine W.lo rfl rfl (Lo.callP (ps := []) (ps' := []) rfl (fn := Tryd.f81) (by kernel_rfl) rfl (mc rfl mn) O241 (fun L' O' => g_rat_told_ok K c245 x236 f247 O' _ i249)) ?_
  rintro v257 H258 ⟨G251, O252, s253, sm256, rfl⟩
  replace O252 : Ow G251 H258 (eVar b54 91 T_Q x236 :: eVar b29 91 T_Q x15 :: L) := O252
  refine W.pure (v := (.string x248.1)) rfl rfl (v_extract (oo rfl rfl) rfl) (W.pure (v := (.int .i64 x248.2)) rfl rfl (v_extract (oo rfl rfl) rfl) (W.q1 (.string x248.1) rfl (W.q1 (.int .i64 x248.2) rfl (.nil (.ret ?_)))))
  have O259 : Ow G251 H258 (eVar b29 91 T_Q x15 :: L) := O252.drop 0
  have O260 : Ow G251 H258 (L) := O259.drop 0
  obtain rfl := Option.some.inj h250
  refine ret2R (P := Tryd.prog) (fn := Tryd.f77) (n := 51) (R := fun v H' => ∃ G', Ow G' H' (L) ∧ G.le G' ∧ v = .tuple #[.string (x248.1, x248.2).1, .int .i64 (x248.1, x248.2).2]) (v1 := (.string x248.1)) (v2 := (.int .i64 x248.2)) (by rfl) (rr_tmp (by rfl) (by exact rfl)) (rr_tmp (by rfl) (by exact rfl)) ?_
  exact ⟨_, O260, (GM.le.trans s6 (GM.le.trans s20 (GM.le.trans s45 (GM.le.trans s73 (GM.le.trans s86 (GM.le.trans s99 (GM.le.trans s112 (GM.le.trans s125 (GM.le.trans s144 (GM.le.trans s154 (GM.le.trans s161 (GM.le.trans s188 (GM.le.trans s242 s253))))))))))))), rfl⟩
 refine .cond (b := x182) rfl t190 (fun g195 => ?_) (fun g195 => ?_)
 rotate_left
 ·have h235 := neg_b g195 h193
  refine .skip ?_
  obtain rfl := Option.some.inj h235
  exact ⟨x40, _, rfl, O187, (GM.le.refl _)⟩
 have h196 := pos_inv g195 h193
 refine .draw2 (M := [0, 0, 3, 7]) mixed (by kernel_rfl) (by kernel_rfl) fun H197 N201 x198 F200 => ?_
 have O199 := O187.ext x198
 obtain ⟨c202, p203, f204⟩ := (O199.atVar (j := 0) rfl)
 refine D2.loadA' (cs := c202) rfl rfl ag91 sz91 (pt_px ((fr185 6 rfl).trans rfl) p203) (RT.len _ f204) fa_nil ?_
 obtain ⟨x205, i206, h207⟩ := bd_inv h196
 refine D2.lo rfl rfl (Lo.callP (ps := []) (ps' := []) rfl (fn := Tryd.f109) (by kernel_rfl) rfl (mc rfl mn) O199 (fun L' O' => g_rat_Int_ok K 1 O' _ i206)) ?_ fa_nil ?_ ?_
 ·rintro v216 H217 ⟨G208, O209, s210, sm215, ⟨c212, rfl, f213⟩⟩; exact (faR1 (.inr (fa_px ((fr185 6 rfl).trans rfl) (sm215 _ (Or.inr ⟨0, _, rfl, List.mem_singleton.2 rfl⟩)))) fa_nil)
 ·rintro v216 H217 ⟨G208, O209, s210, sm215, ⟨c212, rfl, f213⟩⟩; exact fa_nil
 rintro v216 H217 ⟨G208, O209, s210, sm215, ⟨c212, rfl, f213⟩⟩
 replace O209 : Ow G208 H217 (eVar b54 91 T_Q x40 :: eVar b29 91 T_Q x15 :: L) := O209
 obtain ⟨x218, i219, h220⟩ := bd_inv h207
 refine D2.lo rfl rfl (Lo.callP (ps := []) (ps' := []) rfl (fn := Tryd.f87) (by kernel_rfl) rfl (mc rfl (mc rfl mn)) O209 (fun L' O' => g_rat_Q_Add_ok K c202 x40 (RT.mono _ s210 f204) c212 x205 f213 O' _ i219)) ?_ (faL_bit (by decide) fa_nil) ?_ ?_
 ·rintro v229 H230 ⟨G221, O222, s223, sm228, ⟨c225, rfl, f226⟩⟩; exact (faR1 (.inl (by decide)) fa_nil)
 ·rintro v229 H230 ⟨G221, O222, s223, sm228, ⟨c225, rfl, f226⟩⟩; exact fa_nil
 rintro v229 H230 ⟨G221, O222, s223, sm228, ⟨c225, rfl, f226⟩⟩
 replace O222 : Ow G221 H230 (eVar b54 91 T_Q x40 :: eVar b29 91 T_Q x15 :: L) := O222
 refine D2.lo rfl rfl (Lo.storeVar (j := 0) (s := T_Q) (y0 := x218) (v := (.agg (List.toArray c225))) (o := 0) rfl ((Put.at (Put.self _) _ _)) rfl sz91 ((fr185 6 rfl).trans rfl) (by omega) rfl f226 O222) ?_ (faL_bit (by decide) (faL_bit (by decide) fa_nil)) ?_ ?_
 ·rintro v233 H234 ⟨O231, sm232⟩; exact (faR1 (.inl (by decide)) fa_nil)
 ·rintro v233 H234 ⟨O231, sm232⟩; exact fa_nil
 rintro v233 H234 ⟨O231, sm232⟩
 replace O231 : Ow G221 H234 (eVar b54 91 T_Q x218 :: eVar b29 91 T_Q x15 :: L) := O231
 refine .nil ?_
 obtain rfl := Option.some.inj h220
 exact ⟨x218, _, rfl, O231, (GM.le.trans s210 s223)⟩
def g_rat_Integer_l0 (K : Nat) (x15 : Q) : Nat → Int → Int → Option (Int)
  | 0, _, _ => none
  | k + 1, x203, x204 => (if (decide (x204 ≥ 0)) = true then ((idx x15.num x204).bind fun x219 => (lt (kwrap .i64 ((kwrap .i64 (x203 * 1000000000)) + (IntKind.wrap .i64 x219))) fun x223 => g_rat_Integer_l0 K x15 k x223 (kwrap .i64 (x204 - 1)))) else some x203)
def g_rat_Integer (K : Nat) (p0 : ByteArray) : Option (Int × Int) := ((g_rat_Check K p0).bind fun x1 => (if (x1 != 0) = true then some (0, x1) else ((g_rat_In K p0).bind fun x15 => ((g_rat_Q_whole K x15).bind fun x40 => ((g_nat_Of K 1).bind fun x53 => ((g_nat_N_Cmp K x40 x53).bind fun x66 => (if (x66 != 0) = true then some (0, 3) else ((g_nat_Of K 9223372036854775807).bind fun x82 => (Option.bind ((if x15.neg = true then ((g_nat_Of K 1).bind fun x109 => ((g_nat_N_Add K x82 x109).bind fun x130 => ((g_nat_N_Cmp K x15.num x130).bind fun x143 => some (x82, (x143 == 0))))) else some (x82, false))) (tu2 fun x160 x161 => (if x161 = true then some ((-9223372036854775808), 0) else ((g_nat_N_Cmp K x15.num x160).bind fun x180 => (if (decide (x180 > 0)) = true then some (0, 4) else (Option.bind (g_rat_Integer_l0 K x15 K 0 (kwrap .i64 ((List.length x15.num : Int) - 1))) (tu1 fun x227 => (Option.bind ((if x15.neg = true then some (kwrap .i64 (-x227)) else some x227)) (tu1 fun x243 => some (x243, 0))))))))))))))))))
set_option maxHeartbeats 4000000 in
theorem g_rat_Integer_ok (K : Nat) {G : GM} {H : AH} {L : List Pc} (p0 : ByteArray) (O : Ow G H (L)) (r : Int × Int) (h : g_rat_Integer K p0 = some r) :
    CR Tryd.prog 78 [(.string p0)] G H (L) (fun v G' _ => v = .tuple #[.int .i64 r.1, .int .i64 r.2]) := by
 unfold g_rat_Integer at h
 refine CR.of (calls_of_AW (n := 60) (fn := Tryd.f78) (R := fun v H' => ∃ G', Ow G' H' (L) ∧ G.le G' ∧ v = .tuple #[.int .i64 r.1, .int .i64 r.2]) (by kernel_rfl) rfl rfl ?_)
 refine .seq (.region (W.q1 (.int .i64 0) rfl (W.q1 (.int .i64 0) rfl (.nil (.seq (.seq ?_))))))
 refine .region (W.q2 (.string p0) rfl ?_)
 obtain ⟨x1, i2, h3⟩ := bd_inv h
 refine W.lo rfl rfl (Lo.callP (ps := []) (ps' := []) rfl (fn := Tryd.f32) (by kernel_rfl) rfl (mc rfl mn) O (fun L' O' => g_rat_Check_ok K p0 O' _ i2)) ?_
 rintro v10 H11 ⟨G4, O5, s6, sm9, rfl⟩
 replace O5 : Ow G4 H11 (L) := O5
 refine W.q1 (.int .i64 x1) rfl (.nil (.seq (.region (W.q2 (.int .i64 x1) rfl (W.q3 (.bool (x1 != 0)) rfl rfl (.nil ?_))))))
 refine .cond (b := (x1 != 0)) rfl rfl (fun g12 => ?_) (fun g12 => ?_)
 ·have h13 := pos_inv g12 h3
  refine .seq (.region (W.q2 (.int .i64 x1) rfl (W.q1 (.int .i64 0) rfl (W.q1 (.int .i64 x1) rfl (.nil (.ret ?_))))))
  obtain rfl := Option.some.inj h13
  refine ret2R (P := Tryd.prog) (fn := Tryd.f78) (n := 60) (R := fun v H' => ∃ G', Ow G' H' (L) ∧ G.le G' ∧ v = .tuple #[.int .i64 (0, x1).1, .int .i64 (0, x1).2]) (v1 := (.int .i64 0)) (v2 := (.int .i64 x1)) (by rfl) (rr_tmp (by rfl) (by exact rfl)) (rr_tmp (by rfl) (by exact rfl)) ?_
  exact ⟨_, O5, s6, rfl⟩
 have h14 := neg_b g12 h3
 refine .skip (.seq (.region (W.q2 (.string p0) rfl ?_)))
 obtain ⟨x15, i16, h17⟩ := bd_inv h14
 refine W.lo rfl rfl (Lo.callP (ps := []) (ps' := []) rfl (fn := Tryd.f89) (by kernel_rfl) rfl (mc rfl mn) O5 (fun L' O' => g_rat_In_ok K p0 O' _ i16)) ?_
 rintro v26 H27 ⟨G18, O19, s20, sm25, ⟨c22, rfl, f23⟩⟩
 replace O19 : Ow G18 H27 (L) := O19
 refine W.lo rfl rfl (Lo.alloc (r := T_Q) (x0 := (Q.mk false ([] : List Int) ([] : List Int))) ze91 (by kernel_rfl) z_Q O19) ?_
 rintro v31 H32 ⟨b29, rfl, O28, sm30⟩
 refine W.lo rfl rfl (Lo.storeVar (j := 0) (s := T_Q) (y0 := x15) (v := (.agg (List.toArray c22))) (o := 0) rfl ((Put.at (Put.self _) _ _)) rfl sz91 rfl (by omega) rfl f23 O28) ?_
 rintro v35 H36 ⟨O33, sm34⟩
 replace O33 : Ow G18 H36 (eVar b29 91 T_Q x15 :: L) := O33
 refine .nil (.seq (.seq (.region ?_)))
 obtain ⟨c37, p38, f39⟩ := (O33.atVar (j := 0) rfl)
 refine W.loadA (cs := c37) rfl rfl ag91 sz91 (pt_px rfl p38) (RT.len _ f39) ?_
 obtain ⟨x40, i41, h42⟩ := bd_inv h17
 refine W.lo rfl rfl (Lo.callP (ps := []) (ps' := []) rfl (fn := Tryd.f110) (by kernel_rfl) rfl (mc rfl mn) O33 (fun L' O' => g_rat_Q_whole_ok K c37 x15 f39 O' _ i41)) ?_
 rintro v51 H52 ⟨G43, O44, s45, sm50, ⟨w47, rfl, f48⟩⟩
 replace O44 : Ow G43 H52 (eVar b29 91 T_Q x15 :: L) := O44
 obtain ⟨x53, i54, h55⟩ := bd_inv h42
 refine W.lo rfl rfl (Lo.callPF (ps := []) (pw := fun w => [eSl w 108 (rI .u32) x53]) rfl (fn := Tryd.f71) (by kernel_rfl) rfl (mc rfl mn) O44 (fun L' O' => g_nat_Of_ok K 1 O' _ i54)) ?_
 rintro v64 H65 ⟨w61, G56, O57, s58, sm63, rfl⟩
 replace O57 : Ow G56 H65 (eSl w61 108 (rI .u32) x53 :: eVar b29 91 T_Q x15 :: L) := O57
 obtain ⟨x66, i67, h68⟩ := bd_inv h55
 refine W.lo rfl rfl (Lo.callB (j := 0) rfl rfl (fn := Tryd.f59) (by kernel_rfl) rfl (mc rfl (mc rfl mn)) O57 (fun G' L' hG O' hB => g_nat_N_Cmp_ok K w47 x40 (RT.mono _ hG (RT.mono _ s58 f48)) w61 x53 hB O' _ i67)) ?_
 rintro v75 H76 ⟨G69, O70, s71, sm74, rfl⟩
 replace O70 : Ow G69 H76 (eSl w61 108 (rI .u32) x53 :: eVar b29 91 T_Q x15 :: L) := O70
 refine W.q3 (.bool (x66 != 0)) rfl rfl (.nil (.cond (b := (x66 != 0)) rfl rfl (fun g77 => ?_) (fun g77 => ?_)))
 ·have h78 := pos_inv g77 h68
  refine .seq (.region (W.q1 (.int .i64 0) rfl (W.q1 (.int .i64 3) rfl (.nil (.ret ?_)))))
  have O79 : Ow G69 H76 (eVar b29 91 T_Q x15 :: L) := O70.drop 0
  have O80 : Ow G69 H76 (L) := O79.drop 0
  obtain rfl := Option.some.inj h78
  refine ret2R (P := Tryd.prog) (fn := Tryd.f78) (n := 60) (R := fun v H' => ∃ G', Ow G' H' (L) ∧ G.le G' ∧ v = .tuple #[.int .i64 (0, 3).1, .int .i64 (0, 3).2]) (v1 := (.int .i64 0)) (v2 := (.int .i64 3)) (by rfl) (rr_tmp (by rfl) (by exact rfl)) (rr_tmp (by rfl) (by exact rfl)) ?_
  exact ⟨_, O80, (GM.le.trans s6 (GM.le.trans s20 (GM.le.trans s45 (GM.le.trans s58 s71)))), rfl⟩
 have h81 := neg_b g77 h68
 refine .skip (.seq (.region ?_))
 obtain ⟨x82, i83, h84⟩ := bd_inv h81
 refine W.lo rfl rfl (Lo.callPF (ps := []) (pw := fun w => [eSl w 108 (rI .u32) x82]) rfl (fn := Tryd.f71) (by kernel_rfl) rfl (mc rfl mn) O70 (fun L' O' => g_nat_Of_ok K 9223372036854775807 O' _ i83)) ?_
 rintro v93 H94 ⟨w90, G85, O86, s87, sm92, rfl⟩
 replace O86 : Ow G85 H94 (eSl w90 108 (rI .u32) x82 :: eSl w61 108 (rI .u32) x53 :: eVar b29 91 T_Q x15 :: L) := O86
 refine W.q1 w90 rfl (.nil (.seq (.seq ?_)))
 obtain ⟨q95, h96, h97⟩ := bd_inv h84
 refine AW.midT (fun σ' H' => ∃ (y1 : List Int) (y2 : Bool) (G' : GM), (y1, y2) = q95 ∧ Ow G' H' (eSl w61 108 (rI .u32) x53 :: eVar b29 91 T_Q x15 :: L) ∧ GM.le G85 G' ∧ (rSl (rI .u32)).rep G' [σ' 6] y1 ∧ σ' 32 = .bool y2) ?_ ?_
 ·refine .draw2 (M := [0, 1, 3, 7, 15, 7, 7, 103, 255, 511, 1023]) mixed (by kernel_rfl) (by kernel_rfl) fun H98 N102 x99 F101 => ?_
  have O100 := O86.ext x99
  refine D2.pure (v := (padd (.pointer (some ⟨b29, 0, none⟩)) 0)) rfl rfl (v_fldA fl91_0 (oo rfl rfl) (O100.atVar (j := 2) rfl)) (D2.load1' (v := (.bool x15.neg)) (r := []) rfl rfl ag4 (pt_px rfl (At.bool (At.proj (O100.atVar (j := 2) rfl) p_Q_neg))) fa_nil (D2.q2 (.bool x15.neg) rfl (D2.splitAt (t := 24) (b := x15.neg) rfl (fun g103 gv104 => ?_) (fun g103 gv104 => ?_))))
  rotate_left
  ·have h155 := neg_b g103 h96
   refine D2.skip (gk rfl rfl gv104 rfl) rfl (D2.skip (gk rfl rfl gv104 rfl) rfl (D2.skip (gk rfl rfl gv104 rfl) rfl (D2.skip (gk rfl rfl gv104 rfl) rfl (D2.skip (gk rfl rfl gv104 rfl) rfl (D2.skip (gk rfl rfl gv104 rfl) rfl (D2.skip (gk rfl rfl gv104 rfl) rfl ?_))))))
   refine D2.pure (v := (.bool false)) rfl rfl (v_pickF (oo rfl gv104) (oo rfl rfl)) (.nil ?_)
   obtain ⟨G156, O157, s158, f159⟩ := O100.frzSl (j := 0) rfl
   replace O157 : Ow G156 H98 (eSl w61 108 (rI .u32) x53 :: eVar b29 91 T_Q x15 :: L) := O157
   obtain rfl := Option.some.inj h155
   exact ⟨x82, false, _, rfl, O157, s158, f159, rfl⟩
  have h105 := pos_inv g103 h96
  refine D2.pure (v := (padd (.pointer (some ⟨b29, 0, none⟩)) 1)) (gk rfl rfl gv104 rfl) rfl (v_fldA fl91_1 (oo rfl rfl) (O100.atVar (j := 2) rfl)) ?_
  obtain ⟨w106, p107, f108⟩ := At.sl (At.proj (O100.atVar (j := 2) rfl) p_Q_num)
  refine D2.load1' (v := w106) (r := []) (gk rfl rfl gv104 rfl) rfl ag64 (pt_px rfl p107) fa_nil (D2.q2 (hg := gk rfl rfl gv104 rfl) w90 rfl ?_)
  obtain ⟨x109, i110, h111⟩ := bd_inv h105
  refine D2.lo (gk rfl rfl gv104 rfl) rfl (Lo.callPF (ps := []) (pw := fun w => [eSl w 108 (rI .u32) x109]) rfl (fn := Tryd.f71) (by kernel_rfl) rfl (mc rfl mn) O100 (fun L' O' => g_nat_Of_ok K 1 O' _ i110)) ?_ fa_nil ?_ ?_
  ·rintro v120 H121 ⟨w117, G112, O113, s114, sm119, rfl⟩; exact (faR1 (.inr (sm119 _ (Or.inr ⟨2, _, rfl, List.mem_singleton.2 rfl⟩))) (faR1 (.inl (by decide)) fa_nil))
  ·rintro v120 H121 ⟨w117, G112, O113, s114, sm119, rfl⟩; exact fa_nil
  rintro v120 H121 ⟨w117, G112, O113, s114, sm119, rfl⟩
  replace O113 : Ow G112 H121 (eSl w117 108 (rI .u32) x109 :: eSl w90 108 (rI .u32) x82 :: eSl w61 108 (rI .u32) x53 :: eVar b29 91 T_Q x15 :: L) := O113
  obtain ⟨G122, O123, s124, f125⟩ := O113.frzSl (j := 1) rfl
  replace O123 : Ow G122 H121 (eSl w117 108 (rI .u32) x109 :: eSl w61 108 (rI .u32) x53 :: eVar b29 91 T_Q x15 :: L) := O123
  obtain ⟨G126, O127, s128, f129⟩ := O123.frzSl (j := 0) rfl
  replace O127 : Ow G126 H121 (eSl w61 108 (rI .u32) x53 :: eVar b29 91 T_Q x15 :: L) := O127
  obtain ⟨x130, i131, h132⟩ := bd_inv h111
  refine D2.lo (gk rfl rfl gv104 rfl) rfl (Lo.callPF (ps := []) (pw := fun w => [eSl w 108 (rI .u32) x130]) rfl (fn := Tryd.f58) (by kernel_rfl) rfl (mc rfl (mc rfl mn)) O127 (fun L' O' => g_nat_N_Add_ok K w90 x82 (RT.mono _ s128 f125) w117 x109 f129 O' _ i131)) ?_ (faL_bit (by decide) fa_nil) ?_ ?_
  ·rintro v141 H142 ⟨w138, G133, O134, s135, sm140, rfl⟩; exact (faR1 (.inr (sm140 _ (Or.inr ⟨1, _, rfl, List.mem_singleton.2 rfl⟩))) (faR1 (.inl (by decide)) fa_nil))
  ·rintro v141 H142 ⟨w138, G133, O134, s135, sm140, rfl⟩; exact fa_nil
  rintro v141 H142 ⟨w138, G133, O134, s135, sm140, rfl⟩
  replace O134 : Ow G133 H142 (eSl w138 108 (rI .u32) x130 :: eSl w61 108 (rI .u32) x53 :: eVar b29 91 T_Q x15 :: L) := O134
  obtain ⟨x143, i144, h145⟩ := bd_inv h132
  refine D2.lo (gk rfl rfl gv104 rfl) rfl (Lo.callB (j := 0) rfl rfl (fn := Tryd.f59) (by kernel_rfl) rfl (mc rfl (mc rfl mn)) O134 (fun G' L' hG O' hB => g_nat_N_Cmp_ok K w106 x15.num (RT.mono _ hG (RT.mono _ (GM.le.trans s114 (GM.le.trans s124 (GM.le.trans s128 s135))) f108)) w138 x130 hB O' _ i144)) ?_ (faL_bit (by decide) (faL_bit (by decide) fa_nil)) ?_ ?_
  ·rintro v152 H153 ⟨G146, O147, s148, sm151, rfl⟩; exact (faR1 (.inl (by decide)) (faR1 (.inl (by decide)) fa_nil))
  ·rintro v152 H153 ⟨G146, O147, s148, sm151, rfl⟩; exact fa_nil
  rintro v152 H153 ⟨G146, O147, s148, sm151, rfl⟩
  replace O147 : Ow G146 H153 (eSl w138 108 (rI .u32) x130 :: eSl w61 108 (rI .u32) x53 :: eVar b29 91 T_Q x15 :: L) := O147
  refine D2.q3 (hg := gk rfl rfl gv104 rfl) (.bool (x143 == 0)) rfl rfl (D2.pure (v := (.bool (x143 == 0))) rfl rfl (v_pickT (oo rfl gv104) (oo rfl rfl)) (.nil ?_))
  have O154 : Ow G146 H153 (eSl w61 108 (rI .u32) x53 :: eVar b29 91 T_Q x15 :: L) := O147.drop 0
  obtain rfl := Option.some.inj h145
  exact ⟨x82, (x143 == 0), _, rfl, O154, (GM.le.trans s114 (GM.le.trans s124 (GM.le.trans s128 (GM.le.trans s135 s148)))), (RT.mono _ (GM.le.trans s128 (GM.le.trans s135 s148)) f125), rfl⟩
 rintro σ162 H163 fr164 ⟨x160, x161, G165, rfl, O166, s167, f169, t170⟩
 have h171 := tu2_inv h97
 refine .cond (b := x161) rfl t170 (fun g172 => ?_) (fun g172 => ?_)
 ·have h173 := pos_inv g172 h171
  refine .seq (.region (W.q1 (.int .i64 (-9223372036854775808)) rfl (W.q1 (.int .i64 0) rfl (.nil (.ret ?_)))))
  have O174 : Ow G165 H163 (eVar b29 91 T_Q x15 :: L) := O166.drop 0
  have O175 : Ow G165 H163 (L) := O174.drop 0
  obtain rfl := Option.some.inj h173
  refine ret2R (P := Tryd.prog) (fn := Tryd.f78) (n := 60) (R := fun v H' => ∃ G', Ow G' H' (L) ∧ G.le G' ∧ v = .tuple #[.int .i64 ((-9223372036854775808), 0).1, .int .i64 ((-9223372036854775808), 0).2]) (v1 := (.int .i64 (-9223372036854775808))) (v2 := (.int .i64 0)) (by rfl) (rr_tmp (by rfl) (by exact rfl)) (rr_tmp (by rfl) (by exact rfl)) ?_
  exact ⟨_, O175, (GM.le.trans s6 (GM.le.trans s20 (GM.le.trans s45 (GM.le.trans s58 (GM.le.trans s71 (GM.le.trans s87 s167)))))), rfl⟩
 have h176 := neg_b g172 h171
 refine .skip (.seq (.seq (.region (W.pure (v := (padd (.pointer (some ⟨b29, 0, none⟩)) 1)) rfl rfl (v_fldA fl91_1 (oo rfl ((fr164 5 rfl).trans rfl)) (O166.atVar (j := 1) rfl)) ?_))))
 obtain ⟨w177, p178, f179⟩ := At.sl (At.proj (O166.atVar (j := 1) rfl) p_Q_num)
 refine W.load1 (v := w177) (r := []) rfl rfl ag64 (pt_px rfl p178) (W.q2 (σ162 6) rfl ?_)
 obtain ⟨x180, i181, h182⟩ := bd_inv h176
 refine W.lo rfl rfl (Lo.callP (ps := []) (ps' := []) rfl (fn := Tryd.f59) (by kernel_rfl) rfl (mc rfl (mc rfl mn)) O166 (fun L' O' => g_nat_N_Cmp_ok K w177 x15.num f179 (σ162 6) x160 f169 O' _ i181)) ?_
 rintro v189 H190 ⟨G183, O184, s185, sm188, rfl⟩
 replace O184 : Ow G183 H190 (eSl w61 108 (rI .u32) x53 :: eVar b29 91 T_Q x15 :: L) := O184
 refine W.q3 (.bool (decide (x180 > 0))) rfl rfl (.nil (.cond (b := decide (x180 > 0)) rfl rfl (fun g191 => ?_) (fun g191 => ?_)))
 ·have h192 := pos_inv g191 h182
  refine .seq (.region (W.q1 (.int .i64 0) rfl (W.q1 (.int .i64 4) rfl (.nil (.ret ?_)))))
  have O193 : Ow G183 H190 (eVar b29 91 T_Q x15 :: L) := O184.drop 0
  have O194 : Ow G183 H190 (L) := O193.drop 0
  obtain rfl := Option.some.inj h192
  refine ret2R (P := Tryd.prog) (fn := Tryd.f78) (n := 60) (R := fun v H' => ∃ G', Ow G' H' (L) ∧ G.le G' ∧ v = .tuple #[.int .i64 (0, 4).1, .int .i64 (0, 4).2]) (v1 := (.int .i64 0)) (v2 := (.int .i64 4)) (by rfl) (rr_tmp (by rfl) (by exact rfl)) (rr_tmp (by rfl) (by exact rfl)) ?_
  exact ⟨_, O194, (GM.le.trans s6 (GM.le.trans s20 (GM.le.trans s45 (GM.le.trans s58 (GM.le.trans s71 (GM.le.trans s87 (GM.le.trans s167 s185))))))), rfl⟩
 have h195 := neg_b g191 h182
 refine .skip (.seq (.region (W.q1 (.int .i64 0) rfl (.nil (.seq (.seq ?_))))))
 refine .region (W.pure (v := (padd (.pointer (some ⟨b29, 0, none⟩)) 1)) rfl rfl (v_fldA fl91_1 (oo rfl ((fr164 5 rfl).trans rfl)) (O184.atVar (j := 1) rfl)) ?_)
 obtain ⟨w196, p197, f198⟩ := At.sl (At.proj (O184.atVar (j := 1) rfl) p_Q_num)
 refine W.load1 (v := w196) (r := []) rfl rfl ag64 (pt_px rfl p197) (W.pure (v := (.int .i64 (List.length x15.num : Int))) rfl rfl (len_sl (oo rfl rfl) (sl_len f198) (elemT_inv el64)) (W.q3 (.int .i64 (kwrap .i64 ((List.length x15.num : Int) - 1))) rfl rfl (W.q1 (.int .i64 (kwrap .i64 ((List.length x15.num : Int) - 1))) rfl (.nil ?_))))
 obtain ⟨q199, h200, h201⟩ := bd_inv h195
 refine AW.midT (fun σ' H' => ∃ (y1 : Int) (G' : GM), y1 = q199 ∧ Ow G' H' (eSl w61 108 (rI .u32) x53 :: eVar b29 91 T_Q x15 :: L) ∧ GM.le G183 G' ∧ σ' 7 = .int .i64 y1) ?_ ?_
 rotate_left
 ·rintro σ228 H229 fr230 ⟨x227, G231, rfl, O232, s233, t235⟩
  have h236 := tu1_inv h201
  refine .seq (.seq (.region (W.pure (v := (padd (.pointer (some ⟨b29, 0, none⟩)) 0)) rfl rfl (v_fldA fl91_0 (oo rfl ((fr230 5 rfl).trans ((fr164 5 rfl).trans rfl))) (O232.atVar (j := 1) rfl)) (W.load1 (v := (.bool x15.neg)) (r := []) rfl rfl ag4 (pt_px rfl (At.bool (At.proj (O232.atVar (j := 1) rfl) p_Q_neg))) (.nil ?_)))))
  obtain ⟨q237, h238, h239⟩ := bd_inv h236
  refine AW.midT (fun σ' H' => ∃ (y1 : Int) (G' : GM), y1 = q237 ∧ Ow G' H' (eSl w61 108 (rI .u32) x53 :: eVar b29 91 T_Q x15 :: L) ∧ GM.le G231 G' ∧ σ' 7 = .int .i64 y1) ?_ ?_
  ·refine .cond (b := x15.neg) rfl rfl (fun g240 => ?_) (fun g240 => ?_)
   rotate_left
   ·have h242 := neg_b g240 h238
    refine .skip ?_
    obtain rfl := Option.some.inj h242
    exact ⟨x227, _, rfl, O232, (GM.le.refl _), t235⟩
   have h241 := pos_inv g240 h238
   refine .region (W.q2 (.int .i64 x227) t235 (W.pure (v := (.int .i64 (kwrap .i64 (-x227)))) rfl rfl (v_neg (oo rfl rfl)) (W.q1 (.int .i64 (kwrap .i64 (-x227))) rfl (.nil ?_))))
   obtain rfl := Option.some.inj h241
   exact ⟨kwrap .i64 (-x227), _, rfl, O232, (GM.le.refl _), rfl⟩
  rintro σ244 H245 fr246 ⟨x243, G247, rfl, O248, s249, t251⟩
  have h252 := tu1_inv h239
  refine .seq (.region (W.q2 (.int .i64 x243) t251 (W.q1 (.int .i64 x243) rfl (W.q1 (.int .i64 0) rfl (.nil (.ret ?_))))))
  have O253 : Ow G247 H245 (eVar b29 91 T_Q x15 :: L) := O248.drop 0
  have O254 : Ow G247 H245 (L) := O253.drop 0
  obtain rfl := Option.some.inj h252
  refine ret2R (P := Tryd.prog) (fn := Tryd.f78) (n := 60) (R := fun v H' => ∃ G', Ow G' H' (L) ∧ G.le G' ∧ v = .tuple #[.int .i64 (x243, 0).1, .int .i64 (x243, 0).2]) (v1 := (.int .i64 x243)) (v2 := (.int .i64 0)) (by rfl) (rr_tmp (by rfl) (by exact rfl)) (rr_tmp (by rfl) (by exact rfl)) ?_
  exact ⟨_, O254, (GM.le.trans s6 (GM.le.trans s20 (GM.le.trans s45 (GM.le.trans s58 (GM.le.trans s71 (GM.le.trans s87 (GM.le.trans s167 (GM.le.trans s185 (GM.le.trans s233 s249))))))))), rfl⟩
 refine .block (AW.loop (α := Nat) (fun k' σ' H' => ∃ (y1 : Int) (y2 : Int) (G' : GM), g_rat_Integer_l0 K x15 k' y1 y2 = some q199 ∧ Ow G' H' (eSl w61 108 (rI .u32) x53 :: eVar b29 91 T_Q x15 :: L) ∧ GM.le G183 G' ∧ σ' 7 = .int .i64 y1 ∧ σ' 8 = .int .i64 y2) (fun k' => k') K ⟨0, kwrap .i64 ((List.length x15.num : Int) - 1), _, h200, O184, (GM.le.refl _), rfl, rfl⟩ ?_)
 rintro k202
 rintro σ205 H206 fr207 ⟨x203, x204, G208, h211, O209, s210, t212, t213⟩
 rcases k202 with _ | k202
 ·exact none_absurd h211
 rw [g_rat_Integer_l0] at h211
 refine .seq (.seq (.region (W.q2 (.int .i64 x204) t213 (W.q3 (.bool (decide (x204 ≥ 0))) rfl rfl (.nil (.cond (b := decide (x204 ≥ 0)) rfl rfl (fun g214 => ?_) (fun g214 => ?_)))))))
 rotate_left
 ·have h226 := neg_b g214 h211
  refine .exit ?_
  obtain rfl := Option.some.inj h226
  exact ⟨x203, _, rfl, O209, s210, t212⟩
 have h215 := pos_inv g214 h211
 refine .skip (.seq (.block (.region (W.q2 (.int .i64 x203) t212 (W.q3 (.int .i64 (kwrap .i64 (x203 * 1000000000))) rfl rfl (W.pure (v := (padd (.pointer (some ⟨b29, 0, none⟩)) 1)) rfl rfl (v_fldA fl91_1 (oo rfl ((fr207 5 rfl).trans ((fr164 5 rfl).trans rfl))) (O209.atVar (j := 1) rfl)) ?_))))))
 obtain ⟨w216, p217, f218⟩ := At.sl (At.proj (O209.atVar (j := 1) rfl) p_Q_num)
 refine W.load1 (v := w216) (r := []) rfl rfl ag64 (pt_px rfl p217) (W.q2 (.int .i64 x204) t213 ?_)
 obtain ⟨x219, i220, h221⟩ := bd_inv h215
 have j222 := idx_inv i220
 refine W.pure (v := (selem w216 (Int.toNat x204 * 1))) rfl rfl (v_idx el64 sz108 (oo rfl rfl) (oo rfl rfl) (sl_len f218) j222.1 j222.2.1) (W.load1 (v := (.int .u32 x219)) (r := []) rfl rfl ag108 (pt_px rfl (At.int (At.le (sl_idx f218 j222.2.2) (GM.le.refl _) O209.fro))) (W.pure (v := (.int .i64 (IntKind.wrap .i64 x219))) rfl rfl (v_conv in108 in3 (oo rfl rfl)) (W.q3 (.int .i64 (kwrap .i64 ((kwrap .i64 (x203 * 1000000000)) + (IntKind.wrap .i64 x219)))) rfl rfl ?_)))
 obtain ⟨x223, e224, h225⟩ := lt_inv h221
 refine W.q1 (.int .i64 x223) (congrArg (Value.int .i64) e224) (.nil (.region (W.q2 (.int .i64 x204) t213 (W.q3 (.int .i64 (kwrap .i64 (x204 - 1))) rfl rfl (W.q1 (.int .i64 (kwrap .i64 (x204 - 1))) rfl (.nil ?_))))))
 exact ⟨k202, Nat.lt_succ_self _, ⟨x223, kwrap .i64 (x204 - 1), _, h225, O209, s210, rfl, rfl⟩⟩
def g_rat_Sum_l0 (K : Nat) (p0 : List ByteArray) : Nat → Q → Int → Option ((ByteArray × Int) ⊕ Q)
  | 0, _, _ => none
  | k + 1, x27, x28 => (if (decide (x28 < (List.length p0 : Int))) = true then ((idx p0 x28).bind fun x39 => ((g_rat_In K x39).bind fun x51 => ((g_rat_Q_Add K x27 x51).bind fun x64 => ((g_rat_Fits K x64).bind fun x84 => (if (x84 != 0) = true then some (.inl ((⟨#[]⟩ : ByteArray), 2)) else g_rat_Sum_l0 K p0 k x64 (kwrap .i64 (x28 + 1))))))) else some (.inr x27))
def g_rat_Sum (K : Nat) (p0 : List ByteArray) : Option (ByteArray × Int) := (if (decide ((List.length p0 : Int) > 256)) = true then some ((⟨#[]⟩ : ByteArray), 2) else ((g_rat_CheckAll K p0).bind fun x4 => (if (x4 != 0) = true then some ((⟨#[]⟩ : ByteArray), x4) else (bindS (g_rat_Sum_l0 K p0 K (Q.mk false ([] : List Int) ([] : List Int)) 0) (tu2 fun a125 a126 => some (a125, a126)) (tu1 fun x101 => ((g_rat_told K x101).bind fun x113 => some (x113.1, x113.2)))))))
set_option maxHeartbeats 4000000 in
theorem g_rat_Sum_ok (K : Nat) {G : GM} {H : AH} {L : List Pc} (v0 : Value) (p0 : List ByteArray) (hp0 : (rSl rS).rep G [v0] p0) (O : Ow G H (L)) (r : ByteArray × Int) (h : g_rat_Sum K p0 = some r) :
    CR Tryd.prog 48 [v0] G H (L) (fun v G' _ => v = .tuple #[.string r.1, .int .i64 r.2]) := by
 unfold g_rat_Sum at h
 refine CR.of (calls_of_AW (n := 34) (fn := Tryd.f48) (R := fun v H' => ∃ G', Ow G' H' (L) ∧ G.le G' ∧ v = .tuple #[.string r.1, .int .i64 r.2]) (by kernel_rfl) rfl rfl ?_)
 refine .seq (.region (W.q1 (.string (⟨#[]⟩ : ByteArray)) rfl (W.q1 (.int .i64 0) rfl (.nil (.seq (.seq ?_))))))
 refine .region (W.q2 v0 rfl (W.pure (v := (.int .i64 (List.length p0 : Int))) rfl rfl (len_sl (oo rfl rfl) (sl_len hp0) (elemT_inv el41)) (W.q3 (.bool (decide ((List.length p0 : Int) > 256))) rfl rfl (.nil (.cond (b := decide ((List.length p0 : Int) > 256)) rfl rfl (fun g1 => ?_) (fun g1 => ?_))))))
 ·have h2 := pos_inv g1 h
  refine .seq (.region (W.q1 (.string (⟨#[]⟩ : ByteArray)) rfl (W.q1 (.int .i64 2) rfl (.nil (.ret ?_)))))
  obtain rfl := Option.some.inj h2
  refine ret2R (P := Tryd.prog) (fn := Tryd.f48) (n := 34) (R := fun v H' => ∃ G', Ow G' H' (L) ∧ G.le G' ∧ v = .tuple #[.string ((⟨#[]⟩ : ByteArray), 2).1, .int .i64 ((⟨#[]⟩ : ByteArray), 2).2]) (v1 := (.string (⟨#[]⟩ : ByteArray))) (v2 := (.int .i64 2)) (by rfl) (rr_tmp (by rfl) (by exact rfl)) (rr_tmp (by rfl) (by exact rfl)) ?_
  exact ⟨_, O, (GM.le.refl _), rfl⟩
 have h3 := neg_b g1 h
 refine .skip (.seq (.seq (.region (W.q2 v0 rfl ?_))))
 obtain ⟨x4, i5, h6⟩ := bd_inv h3
 refine W.lo rfl rfl (Lo.callP (ps := []) (ps' := []) rfl (fn := Tryd.f34) (by kernel_rfl) rfl (mc rfl mn) O (fun L' O' => g_rat_CheckAll_ok K v0 p0 hp0 O' _ i5)) ?_
 rintro v13 H14 ⟨G7, O8, s9, sm12, rfl⟩
 replace O8 : Ow G7 H14 (L) := O8
 refine W.q1 (.int .i64 x4) rfl (.nil (.seq (.region (W.q2 (.int .i64 x4) rfl (W.q3 (.bool (x4 != 0)) rfl rfl (.nil ?_))))))
 refine .cond (b := (x4 != 0)) rfl rfl (fun g15 => ?_) (fun g15 => ?_)
 ·have h16 := pos_inv g15 h6
  refine .seq (.region (W.q2 (.int .i64 x4) rfl (W.q1 (.string (⟨#[]⟩ : ByteArray)) rfl (W.q1 (.int .i64 x4) rfl (.nil (.ret ?_))))))
  obtain rfl := Option.some.inj h16
  refine ret2R (P := Tryd.prog) (fn := Tryd.f48) (n := 34) (R := fun v H' => ∃ G', Ow G' H' (L) ∧ G.le G' ∧ v = .tuple #[.string ((⟨#[]⟩ : ByteArray), x4).1, .int .i64 ((⟨#[]⟩ : ByteArray), x4).2]) (v1 := (.string (⟨#[]⟩ : ByteArray))) (v2 := (.int .i64 x4)) (by rfl) (rr_tmp (by rfl) (by exact rfl)) (rr_tmp (by rfl) (by exact rfl)) ?_
  exact ⟨_, O8, s9, rfl⟩
 have h17 := neg_b g15 h6
 refine .skip (.seq (.region (W.lo rfl rfl (Lo.alloc (r := T_Q) (x0 := (Q.mk false ([] : List Int) ([] : List Int))) ze91 (by kernel_rfl) z_Q O8) ?_)))
 rintro v21 H22 ⟨b19, rfl, O18, sm20⟩
 refine .nil (.seq (.seq (.region (W.q2 v0 rfl (W.pure (v := (.int .i64 (List.length p0 : Int))) rfl rfl (len_sl (oo rfl rfl) (sl_len (RT.mono _ s9 hp0)) (elemT_inv el41)) (W.q2 (.int .i64 0) rfl ?_))))))
 refine .nil ?_
 obtain ⟨q23, h24, h25⟩ := bindS_inv h17
 refine AW.midT (fun σ' H' => ∃ (y1 : Q) (G' : GM), (.inr y1) = q23 ∧ Ow G' H' (eVar b19 91 T_Q y1 :: L) ∧ GM.le G7 G') ?_ ?_
 rotate_left
 ·rintro σ102 H103 fr104 ⟨x101, G105, rfl, O106, s107⟩
  have h109 := tu1_inv (outS_r h25)
  refine .seq (.region ?_)
  obtain ⟨c110, p111, f112⟩ := (O106.atVar (j := 0) rfl)
  refine W.loadA (cs := c110) rfl rfl ag91 sz91 (pt_px ((fr104 5 rfl).trans rfl) p111) (RT.len _ f112) ?_
  obtain ⟨x113, i114, h115⟩ := bd_inv h109
  refine W.lo rfl rfl (Lo.callP (ps := []) (ps' := []) rfl (fn := Tryd.f81) (by kernel_rfl) rfl (mc rfl mn) O106 (fun L' O' => g_rat_told_ok K c110 x101 f112 O' _ i114)) ?_
  rintro v122 H123 ⟨G116, O117, s118, sm121, rfl⟩
  replace O117 : Ow G116 H123 (eVar b19 91 T_Q x101 :: L) := O117
  refine W.pure (v := (.string x113.1)) rfl rfl (v_extract (oo rfl rfl) rfl) (W.pure (v := (.int .i64 x113.2)) rfl rfl (v_extract (oo rfl rfl) rfl) (W.q1 (.string x113.1) rfl (W.q1 (.int .i64 x113.2) rfl (.nil (.ret ?_)))))
  have O124 : Ow G116 H123 (L) := O117.drop 0
  obtain rfl := Option.some.inj h115
  refine ret2R (P := Tryd.prog) (fn := Tryd.f48) (n := 34) (R := fun v H' => ∃ G', Ow G' H' (L) ∧ G.le G' ∧ v = .tuple #[.string (x113.1, x113.2).1, .int .i64 (x113.1, x113.2).2]) (v1 := (.string x113.1)) (v2 := (.int .i64 x113.2)) (by rfl) (rr_tmp (by rfl) (by exact rfl)) (rr_tmp (by rfl) (by exact rfl)) ?_
  exact ⟨_, O124, (GM.le.trans s9 (GM.le.trans s107 s118)), rfl⟩
 refine .block (AW.loop (α := Nat) (fun k' σ' H' => ∃ (y1 : Q) (y2 : Int) (G' : GM), g_rat_Sum_l0 K p0 k' y1 y2 = some q23 ∧ Ow G' H' (eVar b19 91 T_Q y1 :: L) ∧ GM.le G7 G' ∧ σ' 18 = .int .i64 y2) (fun k' => k') K ⟨(Q.mk false ([] : List Int) ([] : List Int)), 0, _, h24, O18, (GM.le.refl _), rfl⟩ ?_)
 rintro k26
 rintro σ29 H30 fr31 ⟨x27, x28, G32, h35, O33, s34, t36⟩
 rcases k26 with _ | k26
 ·exact none_absurd h35
 rw [g_rat_Sum_l0] at h35
 refine .seq (.region (W.q3 (.bool (decide (x28 < (List.length p0 : Int)))) t36 ((fr31 17 rfl).trans rfl) (.nil (.seq (.cond (b := decide (x28 < (List.length p0 : Int))) rfl rfl (fun g37 => ?_) (fun g37 => ?_))))))
 rotate_left
 ·have h100 := neg_b g37 h35
  refine .exit ?_
  obtain rfl := Option.some.inj h100
  exact ⟨x27, _, rfl, O33, s34⟩
 have h38 := pos_inv g37 h35
 refine .skip (.seq (.block (.seq (.region ?_))))
 obtain ⟨x39, i40, h41⟩ := bd_inv h38
 have j42 := idx_inv i40
 refine W.pure (v := (selem v0 (Int.toNat x28 * 1))) rfl rfl (v_idx el41 sz40 (oo rfl ((fr31 16 rfl).trans rfl)) (oo rfl t36) (sl_len (RT.mono _ (GM.le.trans s9 s34) hp0)) j42.1 j42.2.1) (W.load1 (v := (.string x39)) (r := []) rfl rfl ag40 (pt_px rfl (At.str (At.le (At.le (sl_idx hp0 j42.2.2) (GM.le.trans s9 s34) (GM.le.trans s9 s34)) (GM.le.refl _) O33.fro))) (W.q1 (.string x39) rfl (.nil (.seq (.draw2 (M := [0, 0, 2, 7, 15]) mixed (by kernel_rfl) (by kernel_rfl) fun H43 N47 x44 F46 => ?_)))))
 have O45 := O33.ext x44
 obtain ⟨c48, p49, f50⟩ := (O45.atVar (j := 0) rfl)
 refine D2.loadA' (cs := c48) rfl rfl ag91 sz91 (pt_px ((fr31 5 rfl).trans rfl) p49) (RT.len _ f50) fa_nil (D2.q2 (.string x39) rfl ?_)
 obtain ⟨x51, i52, h53⟩ := bd_inv h41
 refine D2.lo rfl rfl (Lo.callP (ps := []) (ps' := []) rfl (fn := Tryd.f89) (by kernel_rfl) rfl (mc rfl mn) O45 (fun L' O' => g_rat_In_ok K x39 O' _ i52)) ?_ fa_nil ?_ ?_
 ·rintro v62 H63 ⟨G54, O55, s56, sm61, ⟨c58, rfl, f59⟩⟩; exact (faR1 (.inr (fa_px ((fr31 5 rfl).trans rfl) (sm61 _ (Or.inr ⟨0, _, rfl, List.mem_singleton.2 rfl⟩)))) fa_nil)
 ·rintro v62 H63 ⟨G54, O55, s56, sm61, ⟨c58, rfl, f59⟩⟩; exact fa_nil
 rintro v62 H63 ⟨G54, O55, s56, sm61, ⟨c58, rfl, f59⟩⟩
 replace O55 : Ow G54 H63 (eVar b19 91 T_Q x27 :: L) := O55
 obtain ⟨x64, i65, h66⟩ := bd_inv h53
 refine D2.lo rfl rfl (Lo.callP (ps := []) (ps' := []) rfl (fn := Tryd.f87) (by kernel_rfl) rfl (mc rfl (mc rfl mn)) O55 (fun L' O' => g_rat_Q_Add_ok K c48 x27 (RT.mono _ s56 f50) c58 x51 f59 O' _ i65)) ?_ (faL_bit (by decide) fa_nil) ?_ ?_
 ·rintro v75 H76 ⟨G67, O68, s69, sm74, ⟨c71, rfl, f72⟩⟩; exact (faR1 (.inl (by decide)) fa_nil)
 ·rintro v75 H76 ⟨G67, O68, s69, sm74, ⟨c71, rfl, f72⟩⟩; exact fa_nil
 rintro v75 H76 ⟨G67, O68, s69, sm74, ⟨c71, rfl, f72⟩⟩
 replace O68 : Ow G67 H76 (eVar b19 91 T_Q x27 :: L) := O68
 refine D2.lo rfl rfl (Lo.storeVar (j := 0) (s := T_Q) (y0 := x64) (v := (.agg (List.toArray c71))) (o := 0) rfl ((Put.at (Put.self _) _ _)) rfl sz91 ((fr31 5 rfl).trans rfl) (by omega) rfl f72 O68) ?_ (faL_bit (by decide) (faL_bit (by decide) fa_nil)) ?_ ?_
 ·rintro v79 H80 ⟨O77, sm78⟩; exact (faR1 (.inl (by decide)) fa_nil)
 ·rintro v79 H80 ⟨O77, sm78⟩; exact fa_nil
 rintro v79 H80 ⟨O77, sm78⟩
 replace O77 : Ow G67 H80 (eVar b19 91 T_Q x64 :: L) := O77
 refine .nil (.seq (.region ?_))
 obtain ⟨c81, p82, f83⟩ := (O77.atVar (j := 0) rfl)
 refine W.loadA (cs := c81) rfl rfl ag91 sz91 (pt_px ((fr31 5 rfl).trans rfl) p82) (RT.len _ f83) ?_
 obtain ⟨x84, i85, h86⟩ := bd_inv h66
 refine W.lo rfl rfl (Lo.callP (ps := []) (ps' := []) rfl (fn := Tryd.f94) (by kernel_rfl) rfl (mc rfl mn) O77 (fun L' O' => g_rat_Fits_ok K c81 x64 f83 O' _ i85)) ?_
 rintro v93 H94 ⟨G87, O88, s89, sm92, rfl⟩
 replace O88 : Ow G87 H94 (eVar b19 91 T_Q x64 :: L) := O88
 refine W.q3 (.bool (x84 != 0)) rfl rfl (.nil (.cond (b := (x84 != 0)) rfl rfl (fun g95 => ?_) (fun g95 => ?_)))
 rotate_left
 ·have h99 := neg_b g95 h86
  refine .skip (.region (W.q3 (.int .i64 (kwrap .i64 (x28 + 1))) t36 rfl (W.q2 (.int .i64 (kwrap .i64 (x28 + 1))) rfl (.nil ?_))))
  exact ⟨k26, Nat.lt_succ_self _, ⟨x64, kwrap .i64 (x28 + 1), _, h99, O88, (GM.le.trans s34 (GM.le.trans s56 (GM.le.trans s69 s89))), rfl⟩⟩
 have h96 := pos_inv g95 h86
 refine .seq (.region (W.q1 (.string (⟨#[]⟩ : ByteArray)) rfl (W.q1 (.int .i64 2) rfl (.nil (.ret ?_)))))
 have O97 : Ow G87 H94 (L) := O88.drop 0
 obtain rfl := Option.some.inj h96
 have h98 := tu2_inv (outS_l h25)
 obtain rfl := Option.some.inj h98
 refine ret2R (P := Tryd.prog) (fn := Tryd.f48) (n := 34) (R := fun v H' => ∃ G', Ow G' H' (L) ∧ G.le G' ∧ v = .tuple #[.string ((⟨#[]⟩ : ByteArray), 2).1, .int .i64 ((⟨#[]⟩ : ByteArray), 2).2]) (v1 := (.string (⟨#[]⟩ : ByteArray))) (v2 := (.int .i64 2)) (by rfl) (rr_tmp (by rfl) (by exact rfl)) (rr_tmp (by rfl) (by exact rfl)) ?_
 exact ⟨_, O97, (GM.le.trans s9 (GM.le.trans s34 (GM.le.trans s56 (GM.le.trans s69 s89)))), rfl⟩
def g_rat_Least_l0 (K : Nat) (p0 : List ByteArray) : Nat → Int → Int → Option (Int)
  | 0, _, _ => none
  | k + 1, x25, x26 => (if (decide (x26 < (List.length p0 : Int))) = true then (Option.bind (((idx p0 x26).bind fun x41 => ((g_rat_In K x41).bind fun x50 => ((idx p0 x25).bind fun x63 => ((g_rat_In K x63).bind fun x67 => ((g_rat_Q_Cmp K x50 x67).bind fun x80 => (if (decide (x80 < 0)) = true then some x26 else some x25))))))) (tu1 fun x94 => g_rat_Least_l0 K p0 k x94 (kwrap .i64 (x26 + 1)))) else some x25)
def g_rat_Least (K : Nat) (p0 : List ByteArray) : Option (Int × Int) := (if (decide ((List.length p0 : Int) > 256)) = true then some (0, 2) else (if ((List.length p0 : Int) == 0) = true then some (0, 8) else ((g_rat_CheckAll K p0).bind fun x7 => (if (x7 != 0) = true then some (0, x7) else (Option.bind (g_rat_Least_l0 K p0 K 0 0) (tu1 fun x105 => some (x105, 0)))))))
set_option maxHeartbeats 4000000 in
theorem g_rat_Least_ok (K : Nat) {G : GM} {H : AH} {L : List Pc} (v0 : Value) (p0 : List ByteArray) (hp0 : (rSl rS).rep G [v0] p0) (O : Ow G H (L)) (r : Int × Int) (h : g_rat_Least K p0 = some r) :
    CR Tryd.prog 49 [v0] G H (L) (fun v G' _ => v = .tuple #[.int .i64 r.1, .int .i64 r.2]) := by
 unfold g_rat_Least at h
 refine CR.of (calls_of_AW (n := 38) (fn := Tryd.f49) (R := fun v H' => ∃ G', Ow G' H' (L) ∧ G.le G' ∧ v = .tuple #[.int .i64 r.1, .int .i64 r.2]) (by kernel_rfl) rfl rfl ?_)
 refine .seq (.region (W.q1 (.int .i64 0) rfl (W.q1 (.int .i64 0) rfl (.nil (.seq (.seq ?_))))))
 refine .region (W.q2 v0 rfl (W.pure (v := (.int .i64 (List.length p0 : Int))) rfl rfl (len_sl (oo rfl rfl) (sl_len hp0) (elemT_inv el41)) (W.q3 (.bool (decide ((List.length p0 : Int) > 256))) rfl rfl (.nil (.cond (b := decide ((List.length p0 : Int) > 256)) rfl rfl (fun g1 => ?_) (fun g1 => ?_))))))
 ·have h2 := pos_inv g1 h
  refine .seq (.region (W.q1 (.int .i64 0) rfl (W.q1 (.int .i64 2) rfl (.nil (.ret ?_)))))
  obtain rfl := Option.some.inj h2
  refine ret2R (P := Tryd.prog) (fn := Tryd.f49) (n := 38) (R := fun v H' => ∃ G', Ow G' H' (L) ∧ G.le G' ∧ v = .tuple #[.int .i64 (0, 2).1, .int .i64 (0, 2).2]) (v1 := (.int .i64 0)) (v2 := (.int .i64 2)) (by rfl) (rr_tmp (by rfl) (by exact rfl)) (rr_tmp (by rfl) (by exact rfl)) ?_
  exact ⟨_, O, (GM.le.refl _), rfl⟩
 have h3 := neg_b g1 h
 refine .skip (.seq (.seq (.region (W.q2 v0 rfl (W.pure (v := (.int .i64 (List.length p0 : Int))) rfl rfl (len_sl (oo rfl rfl) (sl_len hp0) (elemT_inv el41)) (W.q3 (.bool ((List.length p0 : Int) == 0)) rfl rfl ?_))))))
 refine .nil (.cond (b := ((List.length p0 : Int) == 0)) rfl rfl (fun g4 => ?_) (fun g4 => ?_))
 ·have h5 := pos_inv g4 h3
  refine .seq (.region (W.q1 (.int .i64 0) rfl (W.q1 (.int .i64 8) rfl (.nil (.ret ?_)))))
  obtain rfl := Option.some.inj h5
  refine ret2R (P := Tryd.prog) (fn := Tryd.f49) (n := 38) (R := fun v H' => ∃ G', Ow G' H' (L) ∧ G.le G' ∧ v = .tuple #[.int .i64 (0, 8).1, .int .i64 (0, 8).2]) (v1 := (.int .i64 0)) (v2 := (.int .i64 8)) (by rfl) (rr_tmp (by rfl) (by exact rfl)) (rr_tmp (by rfl) (by exact rfl)) ?_
  exact ⟨_, O, (GM.le.refl _), rfl⟩
 have h6 := neg_b g4 h3
 refine .skip (.seq (.seq (.region (W.q2 v0 rfl ?_))))
 obtain ⟨x7, i8, h9⟩ := bd_inv h6
 refine W.lo rfl rfl (Lo.callP (ps := []) (ps' := []) rfl (fn := Tryd.f34) (by kernel_rfl) rfl (mc rfl mn) O (fun L' O' => g_rat_CheckAll_ok K v0 p0 hp0 O' _ i8)) ?_
 rintro v16 H17 ⟨G10, O11, s12, sm15, rfl⟩
 replace O11 : Ow G10 H17 (L) := O11
 refine W.q1 (.int .i64 x7) rfl (.nil (.seq (.region (W.q2 (.int .i64 x7) rfl (W.q3 (.bool (x7 != 0)) rfl rfl (.nil ?_))))))
 refine .cond (b := (x7 != 0)) rfl rfl (fun g18 => ?_) (fun g18 => ?_)
 ·have h19 := pos_inv g18 h9
  refine .seq (.region (W.q2 (.int .i64 x7) rfl (W.q1 (.int .i64 0) rfl (W.q1 (.int .i64 x7) rfl (.nil (.ret ?_))))))
  obtain rfl := Option.some.inj h19
  refine ret2R (P := Tryd.prog) (fn := Tryd.f49) (n := 38) (R := fun v H' => ∃ G', Ow G' H' (L) ∧ G.le G' ∧ v = .tuple #[.int .i64 (0, x7).1, .int .i64 (0, x7).2]) (v1 := (.int .i64 0)) (v2 := (.int .i64 x7)) (by rfl) (rr_tmp (by rfl) (by exact rfl)) (rr_tmp (by rfl) (by exact rfl)) ?_
  exact ⟨_, O11, s12, rfl⟩
 have h20 := neg_b g18 h9
 refine .skip (.seq (.region (W.q1 (.int .i64 0) rfl (.nil (.seq (.seq ?_))))))
 refine .region (W.q2 v0 rfl (W.pure (v := (.int .i64 (List.length p0 : Int))) rfl rfl (len_sl (oo rfl rfl) (sl_len (RT.mono _ s12 hp0)) (elemT_inv el41)) (W.q2 (.int .i64 0) rfl (.nil ?_))))
 obtain ⟨q21, h22, h23⟩ := bd_inv h20
 refine AW.midT (fun σ' H' => ∃ (y1 : Int) (G' : GM), y1 = q21 ∧ Ow G' H' (L) ∧ GM.le G10 G' ∧ σ' 5 = .int .i64 y1) ?_ ?_
 rotate_left
 ·rintro σ106 H107 fr108 ⟨x105, G109, rfl, O110, s111, t113⟩
  have h114 := tu1_inv h23
  refine .seq (.region (W.q2 (.int .i64 x105) t113 (W.q1 (.int .i64 x105) rfl (W.q1 (.int .i64 0) rfl (.nil (.ret ?_))))))
  obtain rfl := Option.some.inj h114
  refine ret2R (P := Tryd.prog) (fn := Tryd.f49) (n := 38) (R := fun v H' => ∃ G', Ow G' H' (L) ∧ G.le G' ∧ v = .tuple #[.int .i64 (x105, 0).1, .int .i64 (x105, 0).2]) (v1 := (.int .i64 x105)) (v2 := (.int .i64 0)) (by rfl) (rr_tmp (by rfl) (by exact rfl)) (rr_tmp (by rfl) (by exact rfl)) ?_
  exact ⟨_, O110, (GM.le.trans s12 s111), rfl⟩
 refine .block (AW.loop (α := Nat) (fun k' σ' H' => ∃ (y1 : Int) (y2 : Int) (G' : GM), g_rat_Least_l0 K p0 k' y1 y2 = some q21 ∧ Ow G' H' (L) ∧ GM.le G10 G' ∧ σ' 5 = .int .i64 y1 ∧ σ' 21 = .int .i64 y2) (fun k' => k') K ⟨0, 0, _, h22, O11, (GM.le.refl _), rfl, rfl⟩ ?_)
 rintro k24
 rintro σ27 H28 fr29 ⟨x25, x26, G30, h33, O31, s32, t34, t35⟩
 rcases k24 with _ | k24
 ·exact none_absurd h33
 rw [g_rat_Least_l0] at h33
 refine .seq (.region (W.q3 (.bool (decide (x26 < (List.length p0 : Int)))) t35 ((fr29 20 rfl).trans rfl) (.nil (.seq (.cond (b := decide (x26 < (List.length p0 : Int))) rfl rfl (fun g36 => ?_) (fun g36 => ?_))))))
 rotate_left
 ·have h104 := neg_b g36 h33
  refine .exit ?_
  obtain rfl := Option.some.inj h104
  exact ⟨x25, _, rfl, O31, s32, t34⟩
 have h37 := pos_inv g36 h33
 refine .skip (.seq ?_)
 obtain ⟨q38, h39, h40⟩ := bd_inv h37
 refine AW.midT (fun σ' H' => ∃ (y1 : Int) (G' : GM), y1 = q38 ∧ Ow G' H' (L) ∧ GM.le G30 G' ∧ σ' 5 = .int .i64 y1) ?_ ?_
 rotate_left
 ·rintro σ95 H96 fr97 ⟨x94, G98, rfl, O99, s100, t102⟩
  have h103 := tu1_inv h40
  refine .region (W.q3 (.int .i64 (kwrap .i64 (x26 + 1))) ((fr97 21 rfl).trans t35) rfl (W.q2 (.int .i64 (kwrap .i64 (x26 + 1))) rfl (.nil ?_)))
  exact ⟨k24, Nat.lt_succ_self _, ⟨x94, kwrap .i64 (x26 + 1), _, h103, O99, (GM.le.trans s32 s100), t102, rfl⟩⟩
 refine .block (.seq (.region (W.q2 (.int .i64 x26) t35 ?_)))
 obtain ⟨x41, i42, h43⟩ := bd_inv h39
 have j44 := idx_inv i42
 refine W.pure (v := (selem v0 (Int.toNat x26 * 1))) rfl rfl (v_idx el41 sz40 (oo rfl ((fr29 19 rfl).trans rfl)) (oo rfl t35) (sl_len (RT.mono _ (GM.le.trans s12 s32) hp0)) j44.1 j44.2.1) (W.load1 (v := (.string x41)) (r := []) rfl rfl ag40 (pt_px rfl (At.str (At.le (At.le (sl_idx hp0 j44.2.2) (GM.le.trans s12 s32) (GM.le.trans s12 s32)) (GM.le.refl _) O31.fro))) (W.q1 (.int .i64 x26) rfl (W.q1 (.string x41) rfl (.nil (.seq (.draw2 (M := [0, 1, 0, 0, 12, 28, 63, 127, 255]) mixed (by kernel_rfl) (by kernel_rfl) fun H45 N49 x46 F48 => ?_))))))
 have O47 := O31.ext x46
 refine D2.q2 (.string x41) rfl ?_
 obtain ⟨x50, i51, h52⟩ := bd_inv h43
 refine D2.lo rfl rfl (Lo.callP (ps := []) (ps' := []) rfl (fn := Tryd.f89) (by kernel_rfl) rfl (mc rfl mn) O47 (fun L' O' => g_rat_In_ok K x41 O' _ i51)) ?_ fa_nil ?_ ?_
 ·rintro v61 H62 ⟨G53, O54, s55, sm60, ⟨c57, rfl, f58⟩⟩; exact fa_nil
 ·rintro v61 H62 ⟨G53, O54, s55, sm60, ⟨c57, rfl, f58⟩⟩; exact fa_nil
 rintro v61 H62 ⟨G53, O54, s55, sm60, ⟨c57, rfl, f58⟩⟩
 replace O54 : Ow G53 H62 (L) := O54
 refine D2.q2 v0 ((fr29 0 rfl).trans rfl) (D2.q2 (.int .i64 x25) t34 ?_)
 obtain ⟨x63, i64, h65⟩ := bd_inv h52
 have j66 := idx_inv i64
 refine D2.pure (v := (selem v0 (Int.toNat x25 * 1))) rfl rfl (v_idx el41 sz40 (oo rfl rfl) (oo rfl rfl) (sl_len (RT.mono _ (GM.le.trans s12 (GM.le.trans s32 s55)) hp0)) j66.1 j66.2.1) (D2.load1' (v := (.string x63)) (r := []) rfl rfl ag40 (pt_px rfl (At.str (At.le (At.le (sl_idx hp0 j66.2.2) (GM.le.trans s12 (GM.le.trans s32 s55)) (GM.le.trans s12 (GM.le.trans s32 s55))) (GM.le.refl _) O54.fro))) (faQ_eq (sm60 _ (vis_at (M := G30) (At.le (sl_idx hp0 j66.2.2) (GM.le.trans s12 s32) (GM.le.trans s12 s32)) rfl)) fa_nil) ?_)
 obtain ⟨x67, i68, h69⟩ := bd_inv h65
 refine D2.lo rfl rfl (Lo.callP (ps := []) (ps' := []) rfl (fn := Tryd.f89) (by kernel_rfl) rfl (mc rfl mn) O54 (fun L' O' => g_rat_In_ok K x63 O' _ i68)) ?_ (faL_bit (by decide) fa_nil) ?_ ?_
 ·rintro v78 H79 ⟨G70, O71, s72, sm77, ⟨c74, rfl, f75⟩⟩; exact (faR1 (.inl (by decide)) fa_nil)
 ·rintro v78 H79 ⟨G70, O71, s72, sm77, ⟨c74, rfl, f75⟩⟩; exact fa_nil
 rintro v78 H79 ⟨G70, O71, s72, sm77, ⟨c74, rfl, f75⟩⟩
 replace O71 : Ow G70 H79 (L) := O71
 obtain ⟨x80, i81, h82⟩ := bd_inv h69
 refine D2.lo rfl rfl (Lo.callP (ps := []) (ps' := []) rfl (fn := Tryd.f95) (by kernel_rfl) rfl (mc rfl (mc rfl mn)) O71 (fun L' O' => g_rat_Q_Cmp_ok K c57 x50 (RT.mono _ s72 f58) c74 x67 f75 O' _ i81)) ?_ (faL_bit (by decide) (faL_bit (by decide) fa_nil)) ?_ ?_
 ·rintro v89 H90 ⟨G83, O84, s85, sm88, rfl⟩; exact (faR1 (.inl (by decide)) fa_nil)
 ·rintro v89 H90 ⟨G83, O84, s85, sm88, rfl⟩; exact fa_nil
 rintro v89 H90 ⟨G83, O84, s85, sm88, rfl⟩
 replace O84 : Ow G83 H90 (L) := O84
 refine D2.q3 (.bool (decide (x80 < 0))) rfl rfl (.nil (.cond (b := decide (x80 < 0)) rfl rfl (fun g91 => ?_) (fun g91 => ?_)))
 rotate_left
 ·have h93 := neg_b g91 h82
  refine .skip ?_
  obtain rfl := Option.some.inj h93
  exact ⟨x25, _, rfl, O84, (GM.le.trans s55 (GM.le.trans s72 s85)), t34⟩
 have h92 := pos_inv g91 h82
 refine .region (W.q2 (.int .i64 x26) rfl (W.q1 (.int .i64 x26) rfl (.nil ?_)))
 obtain rfl := Option.some.inj h92
 exact ⟨x26, _, rfl, O84, (GM.le.trans s55 (GM.le.trans s72 s85)), rfl⟩
end Go.Am.Tryd
