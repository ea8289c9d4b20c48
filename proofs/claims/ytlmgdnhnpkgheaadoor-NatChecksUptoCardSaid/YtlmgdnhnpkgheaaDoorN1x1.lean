/- Typed functions with the same answers as the program's, and the walks that show it. -/
import Derived.Test.YtlmgdnhnpkgheaaDoorN1x0
namespace Go.Am.Tryd
open Go Go.Am Go.Proofs
set_option linter.unusedVariables false
set_option linter.unusedSimpArgs false
set_option maxRecDepth 10000

def g_nat_Root_l0 (K : Nat) (x15 : List Int) : Nat → List Int → Option (ByteArray × Int)
  | 0, _ => none
  | k + 1, x61 => ((g_nat_N_Div K x15 x61).bind fun x70 => ((g_nat_N_Add K x61 x70.1).bind fun x85 => ((g_nat_N_short K x85 2).bind fun x102 => ((g_nat_N_Cmp K x102.1 x61).bind fun x117 => (if (decide (x117 ≥ 0)) = true then ((g_nat_N_Text K x61).bind fun x130 => some (x130, 0)) else g_nat_Root_l0 K x15 k x102.1)))))
def g_nat_Root (K : Nat) (p0 : ByteArray) : Option (ByteArray × Int) := ((g_nat_Check K p0).bind fun x1 => (if (x1 != 0) = true then some ((⟨#[]⟩ : ByteArray), x1) else ((g_nat_Read K p0).bind fun x15 => (if ((List.length x15 : Int) == 0) = true then some ((⟨#[48]⟩ : ByteArray), 0) else ((g_strings_Repeat K (⟨#[48]⟩ : ByteArray) (kwrap .i64 (Int.tdiv (kwrap .i64 ((p0.size : Int) + 1)) 2))).bind fun x31 => (if ((⟨#[49]⟩ : ByteArray)).size + (x31).size ≤ 4611686018427387904 then ((g_nat_Read K ((⟨#[49]⟩ : ByteArray) ++ x31)).bind fun x44 => (g_nat_Root_l0 K x15 K x44).bind (tu2 fun a143 a144 => some (a143, a144))) else none))))))
set_option maxHeartbeats 4000000 in
theorem g_nat_Root_ok (K : Nat) {G : GM} {H : AH} {L : List Pc} (p0 : ByteArray) (O : Ow G H (L)) (r : ByteArray × Int) (h : g_nat_Root K p0 = some r) :
    CR Tryd.prog 54 [(.string p0)] G H (L) (fun v G' _ => v = .tuple #[.string r.1, .int .i64 r.2]) := by
  unfold g_nat_Root at h
  refine CR.of (calls_of_AW (n := 48) (fn := Tryd.f54) (R := fun v H' => ∃ G', Ow G' H' (L) ∧ G.le G' ∧ v = .tuple #[.string r.1, .int .i64 r.2]) (by kernel_rfl) rfl rfl ?_)
  refine .seq ?_
  refine .region ?_
  refine W.pure (v := (.string (⟨#[]⟩ : ByteArray))) rfl rfl (v_assign (oo rfl rfl)) ?_
  refine W.pure (v := (.int .i64 0)) rfl rfl (v_assign (oo rfl rfl)) ?_
  refine .nil ?_
  refine .seq ?_
  refine .seq ?_
  refine .region ?_
  refine W.pure (v := (.string p0)) rfl rfl (v_move (oo rfl rfl)) ?_
  obtain ⟨x1, i2, h3⟩ := bd_inv h
  refine W.lo rfl rfl (Lo.callP (ps := []) (ps' := []) rfl (fn := Tryd.f14) (by kernel_rfl) rfl (mc rfl mn) O (fun L' O' => g_nat_Check_ok K p0 O' _ i2)) ?_
  rintro v10 H11 ⟨G4, O5, s6, sm9, rfl⟩
  replace O5 : Ow G4 H11 (L) := O5
  refine W.pure (v := (.int .i64 x1)) rfl rfl (v_assign (oo rfl rfl)) ?_
  refine .nil ?_
  refine .seq ?_
  refine .region ?_
  refine W.pure (v := (.int .i64 x1)) rfl rfl (v_move (oo rfl rfl)) ?_
  refine W.pure (v := (.bool (x1 != 0))) rfl rfl (v_int (oo rfl rfl) (oo rfl rfl) rfl) ?_
  refine .nil ?_
  refine .cond (b := (x1 != 0)) rfl rfl (fun g12 => ?_) (fun g12 => ?_)
  · have h13 := pos_inv g12 h3
    refine .seq ?_
    refine .region ?_
    refine W.pure (v := (.int .i64 x1)) rfl rfl (v_move (oo rfl rfl)) ?_
    refine W.pure (v := (.string (⟨#[]⟩ : ByteArray))) rfl rfl (v_assign (oo rfl rfl)) ?_
    refine W.pure (v := (.int .i64 x1)) rfl rfl (v_assign (oo rfl rfl)) ?_
    refine .nil ?_
    refine .ret ?_
    obtain rfl := Option.some.inj h13
    refine ret2R (P := Tryd.prog) (fn := Tryd.f54) (n := 48) (R := fun v H' => ∃ G', Ow G' H' (L) ∧ G.le G' ∧ v = .tuple #[.string ((⟨#[]⟩ : ByteArray), x1).1, .int .i64 ((⟨#[]⟩ : ByteArray), x1).2]) (v1 := (.string (⟨#[]⟩ : ByteArray))) (v2 := (.int .i64 x1)) (by rfl) (rr_tmp (by rfl) (by exact rfl)) (rr_tmp (by rfl) (by exact rfl)) ?_
    exact ⟨_, O5, s6, rfl⟩
  · have h14 := neg_b g12 h3
    refine .skip ?_
    refine .seq ?_
    refine .region ?_
    refine W.pure (v := (.string p0)) rfl rfl (v_move (oo rfl rfl)) ?_
    obtain ⟨x15, i16, h17⟩ := bd_inv h14
    refine W.lo rfl rfl (Lo.callP (ps := []) (ps' := []) rfl (fn := Tryd.f70) (by kernel_rfl) rfl (mc rfl mn) O5 (fun L' O' => g_nat_Read_ok K p0 O' _ i16)) ?_
    rintro v26 H27 ⟨G18, O19, s20, sm25, ⟨w22, rfl, f23⟩⟩
    replace O19 : Ow G18 H27 (L) := O19
    refine W.pure (v := w22) rfl rfl (v_assign (oo rfl rfl)) ?_
    refine .nil ?_
    refine .seq ?_
    refine .seq ?_
    refine .region ?_
    refine W.pure (v := w22) rfl rfl (v_move (oo rfl rfl)) ?_
    refine W.pure (v := (.int .i64 (List.length x15 : Int))) rfl rfl (len_sl (oo rfl rfl) (sl_len f23) (elemT_inv el64)) ?_
    refine W.pure (v := (.bool ((List.length x15 : Int) == 0))) rfl rfl (v_int (oo rfl rfl) (oo rfl rfl) rfl) ?_
    refine .nil ?_
    refine .cond (b := ((List.length x15 : Int) == 0)) rfl rfl (fun g28 => ?_) (fun g28 => ?_)
    · have h29 := pos_inv g28 h17
      refine .seq ?_
      refine .region ?_
      refine W.pure (v := (.string (⟨#[48]⟩ : ByteArray))) rfl rfl (v_assign (oo rfl rfl)) ?_
      refine W.pure (v := (.int .i64 0)) rfl rfl (v_assign (oo rfl rfl)) ?_
      refine .nil ?_
      refine .ret ?_
      obtain rfl := Option.some.inj h29
      refine ret2R (P := Tryd.prog) (fn := Tryd.f54) (n := 48) (R := fun v H' => ∃ G', Ow G' H' (L) ∧ G.le G' ∧ v = .tuple #[.string ((⟨#[48]⟩ : ByteArray), 0).1, .int .i64 ((⟨#[48]⟩ : ByteArray), 0).2]) (v1 := (.string (⟨#[48]⟩ : ByteArray))) (v2 := (.int .i64 0)) (by rfl) (rr_tmp (by rfl) (by exact rfl)) (rr_tmp (by rfl) (by exact rfl)) ?_
      exact ⟨_, O19, (GM.le.trans s6 s20), rfl⟩
    · have h30 := neg_b g28 h17
      refine .skip ?_
      refine .seq ?_
      refine .region ?_
      refine W.pure (v := (.string p0)) rfl rfl (v_move (oo rfl rfl)) ?_
      refine W.pure (v := (.int .i64 (p0.size : Int))) rfl rfl (len_str (oo rfl rfl) un9) ?_
      refine W.pure (v := (.int .i64 (kwrap .i64 ((p0.size : Int) + 1)))) rfl rfl (v_int (oo rfl rfl) (oo rfl rfl) rfl) ?_
      refine W.pure (v := (.int .i64 (kwrap .i64 (Int.tdiv (kwrap .i64 ((p0.size : Int) + 1)) 2)))) rfl rfl (v_quo (by decide) (oo rfl rfl) (oo rfl rfl)) ?_
      obtain ⟨x31, i32, h33⟩ := bd_inv h30
      refine W.lo rfl rfl (Lo.callP (ps := []) (ps' := []) rfl (fn := Tryd.f98) (by kernel_rfl) rfl (mc rfl (mc rfl mn)) O19 (fun L' O' => g_strings_Repeat_ok K (⟨#[48]⟩ : ByteArray) (kwrap .i64 (Int.tdiv (kwrap .i64 ((p0.size : Int) + 1)) 2)) O' _ i32)) ?_
      rintro v40 H41 ⟨G34, O35, s36, sm39, rfl⟩
      replace O35 : Ow G34 H41 (L) := O35
      obtain ⟨g42, h43⟩ := gd_inv h33
      refine W.pure (v := (.string ((⟨#[49]⟩ : ByteArray) ++ x31))) rfl rfl (vs_add g42 (oo rfl rfl) (oo rfl rfl)) ?_
      obtain ⟨x44, i45, h46⟩ := bd_inv h43
      refine W.lo rfl rfl (Lo.callP (ps := []) (ps' := []) rfl (fn := Tryd.f70) (by kernel_rfl) rfl (mc rfl mn) O35 (fun L' O' => g_nat_Read_ok K ((⟨#[49]⟩ : ByteArray) ++ x31) O' _ i45)) ?_
      rintro v55 H56 ⟨G47, O48, s49, sm54, ⟨w51, rfl, f52⟩⟩
      replace O48 : Ow G47 H56 (L) := O48
      refine W.pure (v := w51) rfl rfl (v_assign (oo rfl rfl)) ?_
      refine .nil ?_
      obtain ⟨q57, h58, h59⟩ := bd_inv h46
      refine AW.midT (fun _ _ => False) ?_ (fun _ _ _ hf => hf.elim)
      refine .block ?_
      refine AW.loop (α := Nat) (fun k' σ' H' => ∃ (y1 : List Int) (G' : GM), g_nat_Root_l0 K x15 k' y1 = some q57 ∧ Ow G' H' (L) ∧ GM.le G47 G' ∧ (rSl (rI .u32)).rep G' [σ' 6] y1) (fun k' => k') K ⟨x44, _, h58, O48, (GM.le.refl _), f52⟩ ?_
      rintro k60
      rintro σ62 H63 fr64 ⟨x61, G65, h68, O66, s67, f69⟩
      rcases k60 with _ | k60
      · exact none_absurd h68
      rw [g_nat_Root_l0] at h68
      refine .block ?_
      refine .seq ?_
      refine .region ?_
      refine W.pure (v := w22) rfl rfl (v_move (oo rfl ((fr64 5 rfl).trans rfl))) ?_
      refine W.pure (v := (σ62 6)) rfl rfl (v_move (oo rfl rfl)) ?_
      obtain ⟨x70, i71, h72⟩ := bd_inv h68
      refine W.lo rfl rfl (Lo.callP (ps := []) (ps' := []) rfl (fn := Tryd.f66) (by kernel_rfl) rfl (mc rfl (mc rfl mn)) O66 (fun L' O' => g_nat_N_Div_ok K w22 x15 (RT.mono _ (GM.le.trans s36 (GM.le.trans s49 s67)) f23) (σ62 6) x61 f69 O' _ i71)) ?_
      rintro v83 H84 ⟨G73, O74, s75, sm82, ⟨w77, w79, rfl, f78, f80⟩⟩
      replace O74 : Ow G73 H84 (L) := O74
      refine W.pure (v := (.tuple #[w77, w79])) rfl rfl (v_move (oo rfl rfl)) ?_
      refine W.pure (v := w77) rfl rfl (v_extract (oo rfl rfl) rfl) ?_
      refine W.pure (v := w79) rfl rfl (v_extract (oo rfl rfl) rfl) ?_
      refine W.pure (v := w77) rfl rfl (v_assign (oo rfl rfl)) ?_
      refine W.pure (v := w79) rfl rfl (v_assign (oo rfl rfl)) ?_
      refine .nil ?_
      refine .seq ?_
      refine .region ?_
      refine W.pure (v := (σ62 6)) rfl rfl (v_move (oo rfl rfl)) ?_
      refine W.pure (v := w77) rfl rfl (v_move (oo rfl rfl)) ?_
      obtain ⟨x85, i86, h87⟩ := bd_inv h72
      refine W.lo rfl rfl (Lo.callPF (ps := []) (pw := fun w => [eSl w 108 (rI .u32) x85]) rfl (fn := Tryd.f58) (by kernel_rfl) rfl (mc rfl (mc rfl mn)) O74 (fun L' O' => g_nat_N_Add_ok K (σ62 6) x61 (RT.mono _ s75 f69) w77 x70.1 f78 O' _ i86)) ?_
      rintro v96 H97 ⟨w93, G88, O89, s90, sm95, rfl⟩
      replace O89 : Ow G88 H97 (eSl w93 108 (rI .u32) x85 :: L) := O89
      obtain ⟨G98, O99, s100, f101⟩ := O89.frzSl (j := 0) rfl
      replace O99 : Ow G98 H97 (L) := O99
      obtain ⟨x102, i103, h104⟩ := bd_inv h87
      refine W.lo rfl rfl (Lo.callP (ps := []) (ps' := []) rfl (fn := Tryd.f99) (by kernel_rfl) rfl (mc rfl (mc rfl mn)) O99 (fun L' O' => g_nat_N_short_ok K w93 x85 f101 2 O' _ i103)) ?_
      rintro v115 H116 ⟨G105, O106, s107, sm114, ⟨w109, w111, rfl, f110, f112⟩⟩
      replace O106 : Ow G105 H116 (L) := O106
      refine W.pure (v := (.tuple #[w109, w111])) rfl rfl (v_move (oo rfl rfl)) ?_
      refine W.pure (v := w109) rfl rfl (v_extract (oo rfl rfl) rfl) ?_
      refine W.pure (v := w111) rfl rfl (v_extract (oo rfl rfl) rfl) ?_
      refine W.pure (v := w109) rfl rfl (v_assign (oo rfl rfl)) ?_
      refine W.pure (v := w111) rfl rfl (v_assign (oo rfl rfl)) ?_
      refine .nil ?_
      refine .seq ?_
      refine .seq ?_
      refine .region ?_
      refine W.pure (v := w109) rfl rfl (v_move (oo rfl rfl)) ?_
      refine W.pure (v := (σ62 6)) rfl rfl (v_move (oo rfl rfl)) ?_
      obtain ⟨x117, i118, h119⟩ := bd_inv h104
      refine W.lo rfl rfl (Lo.callP (ps := []) (ps' := []) rfl (fn := Tryd.f59) (by kernel_rfl) rfl (mc rfl (mc rfl mn)) O106 (fun L' O' => g_nat_N_Cmp_ok K w109 x102.1 f110 (σ62 6) x61 (RT.mono _ (GM.le.trans s75 (GM.le.trans s90 (GM.le.trans s100 s107))) f69) O' _ i118)) ?_
      rintro v126 H127 ⟨G120, O121, s122, sm125, rfl⟩
      replace O121 : Ow G120 H127 (L) := O121
      refine W.pure (v := (.bool (decide (x117 ≥ 0)))) rfl rfl (v_int (oo rfl rfl) (oo rfl rfl) rfl) ?_
      refine .nil ?_
      refine .cond (b := decide (x117 ≥ 0)) rfl rfl (fun g128 => ?_) (fun g128 => ?_)
      · have h129 := pos_inv g128 h119
        refine .seq ?_
        refine .region ?_
        refine W.pure (v := (σ62 6)) rfl rfl (v_move (oo rfl rfl)) ?_
        obtain ⟨x130, i131, h132⟩ := bd_inv h129
        refine W.lo rfl rfl (Lo.callP (ps := []) (ps' := []) rfl (fn := Tryd.f67) (by kernel_rfl) rfl (mc rfl mn) O121 (fun L' O' => g_nat_N_Text_ok K (σ62 6) x61 (RT.mono _ (GM.le.trans s75 (GM.le.trans s90 (GM.le.trans s100 (GM.le.trans s107 s122)))) f69) O' _ i131)) ?_
        rintro v139 H140 ⟨G133, O134, s135, sm138, rfl⟩
        replace O134 : Ow G133 H140 (L) := O134
        refine W.pure (v := (.string x130)) rfl rfl (v_assign (oo rfl rfl)) ?_
        refine W.pure (v := (.int .i64 0)) rfl rfl (v_assign (oo rfl rfl)) ?_
        refine .nil ?_
        refine .ret ?_
        obtain rfl := Option.some.inj h132
        have h141 := tu2_inv h59
        obtain rfl := Option.some.inj h141
        refine ret2R (P := Tryd.prog) (fn := Tryd.f54) (n := 48) (R := fun v H' => ∃ G', Ow G' H' (L) ∧ G.le G' ∧ v = .tuple #[.string (x130, 0).1, .int .i64 (x130, 0).2]) (v1 := (.string x130)) (v2 := (.int .i64 0)) (by rfl) (rr_tmp (by rfl) (by exact rfl)) (rr_tmp (by rfl) (by exact rfl)) ?_
        exact ⟨_, O134, (GM.le.trans s6 (GM.le.trans s20 (GM.le.trans s36 (GM.le.trans s49 (GM.le.trans s67 (GM.le.trans s75 (GM.le.trans s90 (GM.le.trans s100 (GM.le.trans s107 (GM.le.trans s122 s135)))))))))), rfl⟩
      · have h142 := neg_b g128 h119
        refine .skip ?_
        refine .region ?_
        refine W.pure (v := w109) rfl rfl (v_move (oo rfl rfl)) ?_
        refine W.pure (v := w109) rfl rfl (v_assign (oo rfl rfl)) ?_
        refine .nil ?_
        exact ⟨k60, Nat.lt_succ_self _, ⟨x102.1, _, h142, O121, (GM.le.trans s67 (GM.le.trans s75 (GM.le.trans s90 (GM.le.trans s100 (GM.le.trans s107 s122))))), (RT.mono _ s122 f110)⟩⟩
def g_slices_IndexFunc_api_Errno_api_Errno_l0 (K : Nat) (p0 : List Int) (p1 : Int → Option Bool) : Nat → Int → Option (Int ⊕ Unit)
  | 0, _ => none
  | k + 1, x5 => (if (decide (x5 < (List.length p0 : Int))) = true then ((idx p0 x5).bind fun x16 => ((p1 x16).bind fun x20 => (if x20 = true then some (.inl x5) else g_slices_IndexFunc_api_Errno_api_Errno_l0 K p0 p1 k (kwrap .i64 (x5 + 1))))) else some (.inr ()))
def g_slices_IndexFunc_api_Errno_api_Errno (K : Nat) (p0 : List Int) (p1 : Int → Option Bool) : Option Int := (bindS (g_slices_IndexFunc_api_Errno_api_Errno_l0 K p0 p1 K 0) (tu1 fun a42 => some a42) (tu0 (some (-1))))
set_option maxHeartbeats 4000000 in
theorem g_slices_IndexFunc_api_Errno_api_Errno_ok (K : Nat) {G : GM} {H : AH} {L : List Pc} (v0 : Value) (p0 : List Int) (hp0 : (rSl (rI .i64)).rep G [v0] p0) (v1 : Value) (p1 : Int → Option Bool) (hp1 : FnOk Tryd.prog G v1 (fun _ vs (x : (Int)) => vs = [.int .i64 x]) (fun _ v (rr : (Bool)) => v = .bool rr) p1) (O : Ow G H (L)) (r : Int) (h : g_slices_IndexFunc_api_Errno_api_Errno K p0 p1 = some r) :
    CR Tryd.prog 119 [v0, v1] G H (L) (fun v G' _ => v = .int .i64 r) := by
  unfold g_slices_IndexFunc_api_Errno_api_Errno at h
  refine CR.of (calls_of_AW (n := 19) (fn := Tryd.f119) (R := fun v H' => ∃ G', Ow G' H' (L) ∧ G.le G' ∧ v = .int .i64 r) (by kernel_rfl) rfl rfl ?_)
  refine .seq ?_
  refine .region ?_
  refine W.pure (v := (.int .i64 0)) rfl rfl (v_assign (oo rfl rfl)) ?_
  refine .nil ?_
  refine .seq ?_
  refine .seq ?_
  refine .region ?_
  refine W.pure (v := v0) rfl rfl (v_move (oo rfl rfl)) ?_
  refine W.pure (v := (.int .i64 (List.length p0 : Int))) rfl rfl (len_sl (oo rfl rfl) (sl_len hp0) (elemT_inv el70)) ?_
  refine W.pure (v := (.int .i64 0)) rfl rfl (v_move (oo rfl rfl)) ?_
  refine .nil ?_
  obtain ⟨q1, h2, h3⟩ := bindS_inv h
  refine AW.midT (fun σ' H' => ∃  (G' : GM), (.inr ()) = q1 ∧ Ow G' H' (L) ∧ GM.le G G') ?_ ?_
  · refine .block ?_
    refine AW.loop (α := Nat) (fun k' σ' H' => ∃ (y1 : Int) (G' : GM), g_slices_IndexFunc_api_Errno_api_Errno_l0 K p0 p1 k' y1 = some q1 ∧ Ow G' H' (L) ∧ GM.le G G' ∧ σ' 8 = .int .i64 y1) (fun k' => k') K ⟨0, _, h2, O, (GM.le.refl _), rfl⟩ ?_
    rintro k4
    rintro σ6 H7 fr8 ⟨x5, G9, h12, O10, s11, t13⟩
    rcases k4 with _ | k4
    · exact none_absurd h12
    rw [g_slices_IndexFunc_api_Errno_api_Errno_l0] at h12
    refine .seq ?_
    refine .region ?_
    refine W.pure (v := (.bool (decide (x5 < (List.length p0 : Int))))) rfl rfl (v_int (oo rfl t13) (oo rfl ((fr8 7 rfl).trans rfl)) rfl) ?_
    refine .nil ?_
    refine .seq ?_
    refine .cond (b := decide (x5 < (List.length p0 : Int))) rfl rfl (fun g14 => ?_) (fun g14 => ?_)
    · have h15 := pos_inv g14 h12
      refine .skip ?_
      refine .seq ?_
      refine .block ?_
      refine .seq ?_
      refine .region ?_
      refine W.pure (v := (.int .i64 x5)) rfl rfl (v_move (oo rfl t13)) ?_
      refine W.pure (v := (.int .i64 x5)) rfl rfl (v_assign (oo rfl rfl)) ?_
      refine .nil ?_
      refine .seq ?_
      refine .region ?_
      refine W.pure (v := v1) rfl rfl (v_move (oo rfl ((fr8 1 rfl).trans rfl))) ?_
      refine W.pure (v := v0) rfl rfl (v_move (oo rfl ((fr8 0 rfl).trans rfl))) ?_
      refine W.pure (v := (.int .i64 x5)) rfl rfl (v_move (oo rfl rfl)) ?_
      obtain ⟨x16, i17, h18⟩ := bd_inv h15
      have j19 := idx_inv i17
      refine W.pure (v := (selem v0 (Int.toNat x5 * 1))) rfl rfl (v_idx el70 sz23 (oo rfl rfl) (oo rfl rfl) (sl_len (RT.mono _ s11 hp0)) j19.1 j19.2.1) ?_
      refine W.load1 (v := (.int .i64 x16)) (r := []) rfl rfl ag23 (pt_px rfl (At.int (At.le (At.le (sl_idx hp0 j19.2.2) s11 s11) (GM.le.refl _) O10.fro))) ?_
      obtain ⟨x20, i21, h22⟩ := bd_inv h18
      refine W.lo rfl rfl (Lo.callF (x0 := x16) rfl rfl (FnOk.le hp1 s11) (mc rfl mn) rfl i21 O10) ?_
      rintro v27 H28 ⟨G23, O24, s25, sm26, rfl⟩
      refine .nil ?_
      refine .cond (b := x20) rfl rfl (fun g29 => ?_) (fun g29 => ?_)
      · have h30 := pos_inv g29 h22
        refine .seq ?_
        refine .region ?_
        refine W.pure (v := (.int .i64 x5)) rfl rfl (v_move (oo rfl rfl)) ?_
        refine W.pure (v := (.int .i64 x5)) rfl rfl (v_assign (oo rfl rfl)) ?_
        refine .nil ?_
        refine .ret ?_
        obtain rfl := Option.some.inj h30
        have h31 := tu1_inv (outS_l h3)
        obtain rfl := Option.some.inj h31
        refine ret1R (P := Tryd.prog) (fn := Tryd.f119) (n := 19) (R := fun v H' => ∃ G', Ow G' H' (L) ∧ G.le G' ∧ v = .int .i64 x5) (v1 := (.int .i64 x5)) (by rfl) (rr_tmp (by rfl) (by exact rfl)) ?_
        exact ⟨_, O24, (GM.le.trans s11 s25), rfl⟩
      · have h32 := neg_b g29 h22
        refine .skip ?_
        refine .region ?_
        refine W.pure (v := (.int .i64 (kwrap .i64 (x5 + 1)))) rfl rfl (v_int (oo rfl t13) (oo rfl rfl) rfl) ?_
        refine W.pure (v := (.int .i64 (kwrap .i64 (x5 + 1)))) rfl rfl (v_move (oo rfl rfl)) ?_
        refine .nil ?_
        exact ⟨k4, Nat.lt_succ_self _, ⟨kwrap .i64 (x5 + 1), _, h32, O24, (GM.le.trans s11 s25), rfl⟩⟩
    · have h33 := neg_b g14 h12
      refine .exit ?_
      obtain rfl := Option.some.inj h33
      exact ⟨_, rfl, O10, s11⟩
  · rintro σ34 H35 fr36 ⟨G37, rfl, O38, s39⟩
    have h41 := tu0_inv (outS_r h3)
    refine .seq ?_
    refine .region ?_
    refine W.pure (v := (.int .i64 (-1))) rfl rfl (v_assign (oo rfl rfl)) ?_
    refine .nil ?_
    refine .ret ?_
    obtain rfl := Option.some.inj h41
    refine ret1R (P := Tryd.prog) (fn := Tryd.f119) (n := 19) (R := fun v H' => ∃ G', Ow G' H' (L) ∧ G.le G' ∧ v = .int .i64 (-1)) (v1 := (.int .i64 (-1))) (by rfl) (rr_tmp (by rfl) (by exact rfl)) ?_
    exact ⟨_, O38, s39, rfl⟩
def g_slices_ContainsFunc_api_Errno_api_Errno (K : Nat) (p0 : List Int) (p1 : Int → Option Bool) : Option Bool := ((g_slices_IndexFunc_api_Errno_api_Errno K p0 p1).bind fun x1 => some (decide (x1 ≥ 0)))
set_option maxHeartbeats 4000000 in
theorem g_slices_ContainsFunc_api_Errno_api_Errno_ok (K : Nat) {G : GM} {H : AH} {L : List Pc} (v0 : Value) (p0 : List Int) (hp0 : (rSl (rI .i64)).rep G [v0] p0) (v1 : Value) (p1 : Int → Option Bool) (hp1 : FnOk Tryd.prog G v1 (fun _ vs (x : (Int)) => vs = [.int .i64 x]) (fun _ v (rr : (Bool)) => v = .bool rr) p1) (O : Ow G H (L)) (r : Bool) (h : g_slices_ContainsFunc_api_Errno_api_Errno K p0 p1 = some r) :
    CR Tryd.prog 100 [v0, v1] G H (L) (fun v G' _ => v = .bool r) := by
  unfold g_slices_ContainsFunc_api_Errno_api_Errno at h
  refine CR.of (calls_of_AW (n := 9) (fn := Tryd.f100) (R := fun v H' => ∃ G', Ow G' H' (L) ∧ G.le G' ∧ v = .bool r) (by kernel_rfl) rfl rfl ?_)
  refine .seq ?_
  refine .region ?_
  refine W.pure (v := (.bool false)) rfl rfl (v_assign (oo rfl rfl)) ?_
  refine .nil ?_
  refine .seq ?_
  refine .region ?_
  refine W.pure (v := v0) rfl rfl (v_move (oo rfl rfl)) ?_
  refine W.pure (v := v1) rfl rfl (v_move (oo rfl rfl)) ?_
  obtain ⟨x1, i2, h3⟩ := bd_inv h
  refine W.lo rfl rfl (Lo.callP (ps := []) (ps' := []) rfl (fn := Tryd.f119) (by kernel_rfl) rfl (mc rfl (mc rfl mn)) O (fun L' O' => g_slices_IndexFunc_api_Errno_api_Errno_ok K v0 p0 hp0 v1 p1 hp1 O' _ i2)) ?_
  rintro v10 H11 ⟨G4, O5, s6, sm9, rfl⟩
  replace O5 : Ow G4 H11 (L) := O5
  refine W.pure (v := (.bool (decide (x1 ≥ 0)))) rfl rfl (v_int (oo rfl rfl) (oo rfl rfl) rfl) ?_
  refine W.pure (v := (.bool (decide (x1 ≥ 0)))) rfl rfl (v_assign (oo rfl rfl)) ?_
  refine .nil ?_
  refine .ret ?_
  obtain rfl := Option.some.inj h3
  refine ret1R (P := Tryd.prog) (fn := Tryd.f100) (n := 9) (R := fun v H' => ∃ G', Ow G' H' (L) ∧ G.le G' ∧ v = .bool (decide (x1 ≥ 0))) (v1 := (.bool (decide (x1 ≥ 0)))) (by rfl) (rr_tmp (by rfl) (by exact rfl)) ?_
  exact ⟨_, O5, s6, rfl⟩
def g_law_fine_1 (K : Nat) (p0 : Int) : Option Bool := some (p0 != 0)
set_option maxHeartbeats 4000000 in
theorem g_law_fine_1_ok (K : Nat) {G : GM} {H : AH} {L : List Pc} (p0 : Int) (O : Ow G H (L)) (r : Bool) (h : g_law_fine_1 K p0 = some r) :
    CR Tryd.prog 101 [(.int .i64 p0)] G H (L) (fun v G' _ => v = .bool r) := by
  unfold g_law_fine_1 at h
  refine CR.of (calls_of_AW (n := 5) (fn := Tryd.f101) (R := fun v H' => ∃ G', Ow G' H' (L) ∧ G.le G' ∧ v = .bool r) (by kernel_rfl) rfl rfl ?_)
  refine .seq ?_
  refine .region ?_
  refine W.pure (v := (.bool false)) rfl rfl (v_assign (oo rfl rfl)) ?_
  refine .nil ?_
  refine .seq ?_
  refine .region ?_
  refine W.pure (v := (.int .i64 p0)) rfl rfl (v_move (oo rfl rfl)) ?_
  refine W.pure (v := (.bool (p0 != 0))) rfl rfl (v_int (oo rfl rfl) (oo rfl rfl) rfl) ?_
  refine W.pure (v := (.bool (p0 != 0))) rfl rfl (v_assign (oo rfl rfl)) ?_
  refine .nil ?_
  refine .ret ?_
  obtain rfl := Option.some.inj h
  refine ret1R (P := Tryd.prog) (fn := Tryd.f101) (n := 5) (R := fun v H' => ∃ G', Ow G' H' (L) ∧ G.le G' ∧ v = .bool (p0 != 0)) (v1 := (.bool (p0 != 0))) (by rfl) (rr_tmp (by rfl) (by exact rfl)) ?_
  exact ⟨_, O, (GM.le.refl _), rfl⟩
def g_law_fine (K : Nat) (p0 : List Int) : Option Bool := ((g_slices_ContainsFunc_api_Errno_api_Errno K p0 (fun x => g_law_fine_1 K x)).bind fun x1 => some (!x1))
set_option maxHeartbeats 4000000 in
theorem g_law_fine_ok (K : Nat) {G : GM} {H : AH} {L : List Pc} (v0 : Value) (p0 : List Int) (hp0 : (rSl (rI .i64)).rep G [v0] p0) (O : Ow G H (L)) (r : Bool) (h : g_law_fine K p0 = some r) :
    CR Tryd.prog 55 [v0] G H (L) (fun v G' _ => v = .bool r) := by
  unfold g_law_fine at h
  refine CR.of (calls_of_AW (n := 6) (fn := Tryd.f55) (R := fun v H' => ∃ G', Ow G' H' (L) ∧ G.le G' ∧ v = .bool r) (by kernel_rfl) rfl rfl ?_)
  refine .seq ?_
  refine .region ?_
  refine W.pure (v := (.bool false)) rfl rfl (v_assign (oo rfl rfl)) ?_
  refine .nil ?_
  refine .seq ?_
  refine .region ?_
  refine W.pure (v := v0) rfl rfl (v_move (oo rfl rfl)) ?_
  obtain ⟨x1, i2, h3⟩ := bd_inv h
  refine W.lo rfl rfl (Lo.callP (ps := []) (ps' := []) rfl (fn := Tryd.f100) (by kernel_rfl) rfl (mc rfl (mc rfl mn)) O (fun L' O' => g_slices_ContainsFunc_api_Errno_api_Errno_ok K v0 p0 hp0 (.func (.func 101) #[] #[]) (fun x => g_law_fine_1 K x) ⟨101, _, _, Tryd.f101, rfl, by kernel_rfl, rfl, fun G1 H L vs x r hG O hA hF => by obtain rfl := hA; exact g_law_fine_1_ok K x O _ hF⟩ O' _ i2)) ?_
  rintro v10 H11 ⟨G4, O5, s6, sm9, rfl⟩
  replace O5 : Ow G4 H11 (L) := O5
  refine W.pure (v := (.bool (!x1))) rfl rfl (bool_not (a := x1) (oo rfl rfl)) ?_
  refine W.pure (v := (.bool (!x1))) rfl rfl (v_assign (oo rfl rfl)) ?_
  refine .nil ?_
  refine .ret ?_
  obtain rfl := Option.some.inj h3
  refine ret1R (P := Tryd.prog) (fn := Tryd.f55) (n := 6) (R := fun v H' => ∃ G', Ow G' H' (L) ∧ G.le G' ∧ v = .bool (!x1)) (v1 := (.bool (!x1))) (by rfl) (rr_tmp (by rfl) (by exact rfl)) ?_
  exact ⟨_, O5, s6, rfl⟩
def g_law_natFact (K : Nat) : Option Bool := ((g_nat_Add K (⟨#[57, 57, 57, 57, 57, 57, 57, 57, 57]⟩ : ByteArray) (⟨#[49]⟩ : ByteArray)).bind fun x1 => ((g_nat_Sub K (⟨#[49, 48, 48, 48, 48, 48, 48, 48, 48, 48]⟩ : ByteArray) (⟨#[49]⟩ : ByteArray)).bind fun x12 => ((g_nat_Mul K (⟨#[49, 48, 48, 48, 48, 48, 48, 48, 48, 48]⟩ : ByteArray) (⟨#[49, 48, 48, 48, 48, 48, 48, 48, 48, 48]⟩ : ByteArray)).bind fun x23 => ((g_nat_Divide K (⟨#[49, 55]⟩ : ByteArray) (⟨#[53]⟩ : ByteArray)).bind fun x34 => ((g_nat_Gcd K (⟨#[49, 50]⟩ : ByteArray) (⟨#[49, 56]⟩ : ByteArray)).bind fun x45 => ((g_nat_Compare K (⟨#[57]⟩ : ByteArray) (⟨#[49, 48]⟩ : ByteArray)).bind fun x56 => ((g_nat_Power K (⟨#[50]⟩ : ByteArray) 10).bind fun x67 => ((g_nat_Root K (⟨#[57, 57]⟩ : ByteArray)).bind fun x78 => (Option.bind (((g_law_fine K [x1.2, x12.2, x23.2, x34.2.2, x45.2, x56.2, x67.2, x78.2]).bind fun x96 => (if x96 = true then (lt (sEq x1.1 (⟨#[49, 48, 48, 48, 48, 48, 48, 48, 48, 48]⟩ : ByteArray)) fun x110 => (if x110 = true then (lt (sEq x12.1 (⟨#[57, 57, 57, 57, 57, 57, 57, 57, 57]⟩ : ByteArray)) fun x116 => (if x116 = true then (lt (sEq x23.1 (⟨#[49, 48, 48, 48, 48, 48, 48, 48, 48, 48, 48, 48, 48, 48, 48, 48, 48, 48, 48]⟩ : ByteArray)) fun x122 => (if x122 = true then (if (sEq x34.1 (⟨#[51]⟩ : ByteArray)) = true then (if (sEq x34.2.1 (⟨#[50]⟩ : ByteArray)) = true then (if (sEq x45.1 (⟨#[54]⟩ : ByteArray)) = true then (if (x56.1 == (-1)) = true then (if (sEq x67.1 (⟨#[49, 48, 50, 52]⟩ : ByteArray)) = true then (if (sEq x78.1 (⟨#[57]⟩ : ByteArray)) = true then ((g_nat_Check K (⟨#[48, 48, 55]⟩ : ByteArray)).bind fun x146 => some (x146 == 5)) else some false) else some false) else some false) else some false) else some false) else some false) else some false)) else some false)) else some false)) else some false))) (tu1 fun x178 => some x178))))))))))
set_option maxHeartbeats 4000000 in
theorem g_law_natFact_ok (K : Nat) {G : GM} {H : AH} {L : List Pc}  (O : Ow G H (L)) (r : Bool) (h : g_law_natFact K = some r) :
    CR Tryd.prog 13 [] G H (L) (fun v G' _ => v = .bool r) := by
  unfold g_law_natFact at h
  refine CR.of (calls_of_AW (n := 101) (fn := Tryd.f13) (R := fun v H' => ∃ G', Ow G' H' (L) ∧ G.le G' ∧ v = .bool r) (by kernel_rfl) rfl rfl ?_)
  refine .seq ?_
  refine .region ?_
  refine W.pure (v := (.bool false)) rfl rfl (v_assign (oo rfl rfl)) ?_
  refine .nil ?_
  refine .seq ?_
  refine .region ?_
  obtain ⟨x1, i2, h3⟩ := bd_inv h
  refine W.lo rfl rfl (Lo.callP (ps := []) (ps' := []) rfl (fn := Tryd.f16) (by kernel_rfl) rfl (mc rfl (mc rfl mn)) O (fun L' O' => g_nat_Add_ok K (⟨#[57, 57, 57, 57, 57, 57, 57, 57, 57]⟩ : ByteArray) (⟨#[49]⟩ : ByteArray) O' _ i2)) ?_
  rintro v10 H11 ⟨G4, O5, s6, sm9, rfl⟩
  replace O5 : Ow G4 H11 (L) := O5
  refine W.pure (v := (.tuple #[(.string x1.1), (.int .i64 x1.2)])) rfl rfl (v_move (oo rfl rfl)) ?_
  refine W.pure (v := (.string x1.1)) rfl rfl (v_extract (oo rfl rfl) rfl) ?_
  refine W.pure (v := (.int .i64 x1.2)) rfl rfl (v_extract (oo rfl rfl) rfl) ?_
  refine W.pure (v := (.string x1.1)) rfl rfl (v_assign (oo rfl rfl)) ?_
  refine W.pure (v := (.int .i64 x1.2)) rfl rfl (v_assign (oo rfl rfl)) ?_
  refine .nil ?_
  refine .seq ?_
  refine .region ?_
  obtain ⟨x12, i13, h14⟩ := bd_inv h3
  refine W.lo rfl rfl (Lo.callP (ps := []) (ps' := []) rfl (fn := Tryd.f17) (by kernel_rfl) rfl (mc rfl (mc rfl mn)) O5 (fun L' O' => g_nat_Sub_ok K (⟨#[49, 48, 48, 48, 48, 48, 48, 48, 48, 48]⟩ : ByteArray) (⟨#[49]⟩ : ByteArray) O' _ i13)) ?_
  rintro v21 H22 ⟨G15, O16, s17, sm20, rfl⟩
  replace O16 : Ow G15 H22 (L) := O16
  refine W.pure (v := (.tuple #[(.string x12.1), (.int .i64 x12.2)])) rfl rfl (v_move (oo rfl rfl)) ?_
  refine W.pure (v := (.string x12.1)) rfl rfl (v_extract (oo rfl rfl) rfl) ?_
  refine W.pure (v := (.int .i64 x12.2)) rfl rfl (v_extract (oo rfl rfl) rfl) ?_
  refine W.pure (v := (.string x12.1)) rfl rfl (v_assign (oo rfl rfl)) ?_
  refine W.pure (v := (.int .i64 x12.2)) rfl rfl (v_assign (oo rfl rfl)) ?_
  refine .nil ?_
  refine .seq ?_
  refine .region ?_
  obtain ⟨x23, i24, h25⟩ := bd_inv h14
  refine W.lo rfl rfl (Lo.callP (ps := []) (ps' := []) rfl (fn := Tryd.f23) (by kernel_rfl) rfl (mc rfl (mc rfl mn)) O16 (fun L' O' => g_nat_Mul_ok K (⟨#[49, 48, 48, 48, 48, 48, 48, 48, 48, 48]⟩ : ByteArray) (⟨#[49, 48, 48, 48, 48, 48, 48, 48, 48, 48]⟩ : ByteArray) O' _ i24)) ?_
  rintro v32 H33 ⟨G26, O27, s28, sm31, rfl⟩
  replace O27 : Ow G26 H33 (L) := O27
  refine W.pure (v := (.tuple #[(.string x23.1), (.int .i64 x23.2)])) rfl rfl (v_move (oo rfl rfl)) ?_
  refine W.pure (v := (.string x23.1)) rfl rfl (v_extract (oo rfl rfl) rfl) ?_
  refine W.pure (v := (.int .i64 x23.2)) rfl rfl (v_extract (oo rfl rfl) rfl) ?_
  refine W.pure (v := (.string x23.1)) rfl rfl (v_assign (oo rfl rfl)) ?_
  refine W.pure (v := (.int .i64 x23.2)) rfl rfl (v_assign (oo rfl rfl)) ?_
  refine .nil ?_
  refine .seq ?_
  refine .region ?_
  obtain ⟨x34, i35, h36⟩ := bd_inv h25
  refine W.lo rfl rfl (Lo.callP (ps := []) (ps' := []) rfl (fn := Tryd.f26) (by kernel_rfl) rfl (mc rfl (mc rfl mn)) O27 (fun L' O' => g_nat_Divide_ok K (⟨#[49, 55]⟩ : ByteArray) (⟨#[53]⟩ : ByteArray) O' _ i35)) ?_
  rintro v43 H44 ⟨G37, O38, s39, sm42, rfl⟩
  replace O38 : Ow G37 H44 (L) := O38
  refine W.pure (v := (.tuple #[(.string x34.1), (.string x34.2.1), (.int .i64 x34.2.2)])) rfl rfl (v_move (oo rfl rfl)) ?_
  refine W.pure (v := (.string x34.1)) rfl rfl (v_extract (oo rfl rfl) rfl) ?_
  refine W.pure (v := (.string x34.2.1)) rfl rfl (v_extract (oo rfl rfl) rfl) ?_
  refine W.pure (v := (.int .i64 x34.2.2)) rfl rfl (v_extract (oo rfl rfl) rfl) ?_
  refine W.pure (v := (.string x34.1)) rfl rfl (v_assign (oo rfl rfl)) ?_
  refine W.pure (v := (.string x34.2.1)) rfl rfl (v_assign (oo rfl rfl)) ?_
  refine W.pure (v := (.int .i64 x34.2.2)) rfl rfl (v_assign (oo rfl rfl)) ?_
  refine .nil ?_
  refine .seq ?_
  refine .region ?_
  obtain ⟨x45, i46, h47⟩ := bd_inv h36
  refine W.lo rfl rfl (Lo.callP (ps := []) (ps' := []) rfl (fn := Tryd.f27) (by kernel_rfl) rfl (mc rfl (mc rfl mn)) O38 (fun L' O' => g_nat_Gcd_ok K (⟨#[49, 50]⟩ : ByteArray) (⟨#[49, 56]⟩ : ByteArray) O' _ i46)) ?_
  rintro v54 H55 ⟨G48, O49, s50, sm53, rfl⟩
  replace O49 : Ow G48 H55 (L) := O49
  refine W.pure (v := (.tuple #[(.string x45.1), (.int .i64 x45.2)])) rfl rfl (v_move (oo rfl rfl)) ?_
  refine W.pure (v := (.string x45.1)) rfl rfl (v_extract (oo rfl rfl) rfl) ?_
  refine W.pure (v := (.int .i64 x45.2)) rfl rfl (v_extract (oo rfl rfl) rfl) ?_
  refine W.pure (v := (.string x45.1)) rfl rfl (v_assign (oo rfl rfl)) ?_
  refine W.pure (v := (.int .i64 x45.2)) rfl rfl (v_assign (oo rfl rfl)) ?_
  refine .nil ?_
  refine .seq ?_
  refine .region ?_
  obtain ⟨x56, i57, h58⟩ := bd_inv h47
  refine W.lo rfl rfl (Lo.callP (ps := []) (ps' := []) rfl (fn := Tryd.f53) (by kernel_rfl) rfl (mc rfl (mc rfl mn)) O49 (fun L' O' => g_nat_Compare_ok K (⟨#[57]⟩ : ByteArray) (⟨#[49, 48]⟩ : ByteArray) O' _ i57)) ?_
  rintro v65 H66 ⟨G59, O60, s61, sm64, rfl⟩
  replace O60 : Ow G59 H66 (L) := O60
  refine W.pure (v := (.tuple #[(.int .i64 x56.1), (.int .i64 x56.2)])) rfl rfl (v_move (oo rfl rfl)) ?_
  refine W.pure (v := (.int .i64 x56.1)) rfl rfl (v_extract (oo rfl rfl) rfl) ?_
  refine W.pure (v := (.int .i64 x56.2)) rfl rfl (v_extract (oo rfl rfl) rfl) ?_
  refine W.pure (v := (.int .i64 x56.1)) rfl rfl (v_assign (oo rfl rfl)) ?_
  refine W.pure (v := (.int .i64 x56.2)) rfl rfl (v_assign (oo rfl rfl)) ?_
  refine .nil ?_
  refine .seq ?_
  refine .region ?_
  obtain ⟨x67, i68, h69⟩ := bd_inv h58
  refine W.lo rfl rfl (Lo.callP (ps := []) (ps' := []) rfl (fn := Tryd.f30) (by kernel_rfl) rfl (mc rfl (mc rfl mn)) O60 (fun L' O' => g_nat_Power_ok K (⟨#[50]⟩ : ByteArray) 10 O' _ i68)) ?_
  rintro v76 H77 ⟨G70, O71, s72, sm75, rfl⟩
  replace O71 : Ow G70 H77 (L) := O71
  refine W.pure (v := (.tuple #[(.string x67.1), (.int .i64 x67.2)])) rfl rfl (v_move (oo rfl rfl)) ?_
  refine W.pure (v := (.string x67.1)) rfl rfl (v_extract (oo rfl rfl) rfl) ?_
  refine W.pure (v := (.int .i64 x67.2)) rfl rfl (v_extract (oo rfl rfl) rfl) ?_
  refine W.pure (v := (.string x67.1)) rfl rfl (v_assign (oo rfl rfl)) ?_
  refine W.pure (v := (.int .i64 x67.2)) rfl rfl (v_assign (oo rfl rfl)) ?_
  refine .nil ?_
  refine .seq ?_
  refine .region ?_
  obtain ⟨x78, i79, h80⟩ := bd_inv h69
  refine W.lo rfl rfl (Lo.callP (ps := []) (ps' := []) rfl (fn := Tryd.f54) (by kernel_rfl) rfl (mc rfl mn) O71 (fun L' O' => g_nat_Root_ok K (⟨#[57, 57]⟩ : ByteArray) O' _ i79)) ?_
  rintro v87 H88 ⟨G81, O82, s83, sm86, rfl⟩
  replace O82 : Ow G81 H88 (L) := O82
  refine W.pure (v := (.tuple #[(.string x78.1), (.int .i64 x78.2)])) rfl rfl (v_move (oo rfl rfl)) ?_
  refine W.pure (v := (.string x78.1)) rfl rfl (v_extract (oo rfl rfl) rfl) ?_
  refine W.pure (v := (.int .i64 x78.2)) rfl rfl (v_extract (oo rfl rfl) rfl) ?_
  refine W.pure (v := (.string x78.1)) rfl rfl (v_assign (oo rfl rfl)) ?_
  refine W.pure (v := (.int .i64 x78.2)) rfl rfl (v_assign (oo rfl rfl)) ?_
  refine .nil ?_
  refine .seq ?_
  obtain ⟨q89, h90, h91⟩ := bd_inv h80
  refine AW.midT (fun σ' H' => ∃ (y1 : Bool) (G' : GM), y1 = q89 ∧ Ow G' H' (L) ∧ GM.le G81 G' ∧ σ' 0 = .bool y1) ?_ ?_
  · refine .region ?_
    refine W.pure (v := (.int .i64 x1.2)) rfl rfl (v_move (oo rfl rfl)) ?_
    refine W.pure (v := (.int .i64 x12.2)) rfl rfl (v_move (oo rfl rfl)) ?_
    refine W.pure (v := (.int .i64 x23.2)) rfl rfl (v_move (oo rfl rfl)) ?_
    refine W.pure (v := (.int .i64 x34.2.2)) rfl rfl (v_move (oo rfl rfl)) ?_
    refine W.pure (v := (.int .i64 x45.2)) rfl rfl (v_move (oo rfl rfl)) ?_
    refine W.pure (v := (.int .i64 x56.2)) rfl rfl (v_move (oo rfl rfl)) ?_
    refine W.pure (v := (.int .i64 x67.2)) rfl rfl (v_move (oo rfl rfl)) ?_
    refine W.pure (v := (.int .i64 x78.2)) rfl rfl (v_move (oo rfl rfl)) ?_
    refine W.lo rfl rfl (Lo.buildSlice (r := (rI .i64)) (vs := [(.int .i64 x1.2), (.int .i64 x12.2), (.int .i64 x23.2), (.int .i64 x34.2.2), (.int .i64 x45.2), (.int .i64 x56.2), (.int .i64 x67.2), (.int .i64 x78.2)]) (xs := [x1.2, x12.2, x23.2, x34.2.2, x45.2, x56.2, x67.2, x78.2]) el70 ze23 sz23 (by kernel_rfl) rfl (qc rfl (qc rfl (qc rfl (qc rfl (qc rfl (qc rfl (qc rfl (qc rfl qn)))))))) rfl (.cons rfl (.cons rfl (.cons rfl (.cons rfl (.cons rfl (.cons rfl (.cons rfl (.cons rfl .nil)))))))) O82) ?_
    rintro v94 H95 ⟨O92, sm93⟩
    obtain ⟨x96, i97, h98⟩ := bd_inv h90
    refine W.lo rfl rfl (Lo.callB (j := 0) rfl rfl (fn := Tryd.f55) (by kernel_rfl) rfl (mc rfl mn) O92 (fun G' L' hG O' hB => g_law_fine_ok K v94 [x1.2, x12.2, x23.2, x34.2.2, x45.2, x56.2, x67.2, x78.2] hB O' _ i97)) ?_
    rintro v105 H106 ⟨G99, O100, s101, sm104, rfl⟩
    replace O100 : Ow G99 H106 (eSl v94 23 (rI .i64) [x1.2, x12.2, x23.2, x34.2.2, x45.2, x56.2, x67.2, x78.2] :: L) := O100
    refine W.pure (v := (.bool x96)) rfl rfl (v_move (oo rfl rfl)) ?_
    refine W.splitAt (t := 61) (b := x96) rfl (fun g107 gv108 => ?_) (fun g107 gv108 => ?_)
    · have h109 := pos_inv g107 h98
      refine W.pure (v := (.string x1.1)) (gk rfl rfl gv108 rfl) rfl (v_move (oo rfl rfl)) ?_
      refine W.pure (v := (.bool (sEq x1.1 (⟨#[49, 48, 48, 48, 48, 48, 48, 48, 48, 48]⟩ : ByteArray)))) (gk rfl rfl gv108 rfl) rfl (vs_eql (oo rfl rfl) (oo rfl rfl)) ?_
      obtain ⟨x110, e111, h112⟩ := lt_inv h109
      refine W.pure (v := (.bool x110)) rfl rfl (v_pickT (oo rfl gv108) (oo rfl (congrArg (Value.bool) e111))) ?_
      refine W.pure (v := (.bool x110)) rfl rfl (v_move (oo rfl rfl)) ?_
      refine W.splitAt (t := 65) (b := x110) rfl (fun g113 gv114 => ?_) (fun g113 gv114 => ?_)
      · have h115 := pos_inv g113 h112
        refine W.pure (v := (.string x12.1)) (gk rfl rfl gv114 rfl) rfl (v_move (oo rfl rfl)) ?_
        refine W.pure (v := (.bool (sEq x12.1 (⟨#[57, 57, 57, 57, 57, 57, 57, 57, 57]⟩ : ByteArray)))) (gk rfl rfl gv114 rfl) rfl (vs_eql (oo rfl rfl) (oo rfl rfl)) ?_
        obtain ⟨x116, e117, h118⟩ := lt_inv h115
        refine W.pure (v := (.bool x116)) rfl rfl (v_pickT (oo rfl gv114) (oo rfl (congrArg (Value.bool) e117))) ?_
        refine W.pure (v := (.bool x116)) rfl rfl (v_move (oo rfl rfl)) ?_
        refine W.splitAt (t := 69) (b := x116) rfl (fun g119 gv120 => ?_) (fun g119 gv120 => ?_)
        · have h121 := pos_inv g119 h118
          refine W.pure (v := (.string x23.1)) (gk rfl rfl gv120 rfl) rfl (v_move (oo rfl rfl)) ?_
          refine W.pure (v := (.bool (sEq x23.1 (⟨#[49, 48, 48, 48, 48, 48, 48, 48, 48, 48, 48, 48, 48, 48, 48, 48, 48, 48, 48]⟩ : ByteArray)))) (gk rfl rfl gv120 rfl) rfl (vs_eql (oo rfl rfl) (oo rfl rfl)) ?_
          obtain ⟨x122, e123, h124⟩ := lt_inv h121
          refine W.pure (v := (.bool x122)) rfl rfl (v_pickT (oo rfl gv120) (oo rfl (congrArg (Value.bool) e123))) ?_
          refine W.pure (v := (.bool x122)) rfl rfl (v_move (oo rfl rfl)) ?_
          refine W.splitAt (t := 73) (b := x122) rfl (fun g125 gv126 => ?_) (fun g125 gv126 => ?_)
          · have h127 := pos_inv g125 h124
            refine W.pure (v := (.string x34.1)) (gk rfl rfl gv126 rfl) rfl (v_move (oo rfl rfl)) ?_
            refine W.pure (v := (.bool (sEq x34.1 (⟨#[51]⟩ : ByteArray)))) (gk rfl rfl gv126 rfl) rfl (vs_eql (oo rfl rfl) (oo rfl rfl)) ?_
            refine W.pure (v := (.bool (sEq x34.1 (⟨#[51]⟩ : ByteArray)))) rfl rfl (v_pickT (oo rfl gv126) (oo rfl rfl)) ?_
            refine W.pure (v := (.bool (sEq x34.1 (⟨#[51]⟩ : ByteArray)))) rfl rfl (v_move (oo rfl rfl)) ?_
            refine W.splitAt (t := 77) (b := sEq x34.1 (⟨#[51]⟩ : ByteArray)) rfl (fun g128 gv129 => ?_) (fun g128 gv129 => ?_)
            · have h130 := pos_inv g128 h127
              refine W.pure (v := (.string x34.2.1)) (gk rfl rfl gv129 rfl) rfl (v_move (oo rfl rfl)) ?_
              refine W.pure (v := (.bool (sEq x34.2.1 (⟨#[50]⟩ : ByteArray)))) (gk rfl rfl gv129 rfl) rfl (vs_eql (oo rfl rfl) (oo rfl rfl)) ?_
              refine W.pure (v := (.bool (sEq x34.2.1 (⟨#[50]⟩ : ByteArray)))) rfl rfl (v_pickT (oo rfl gv129) (oo rfl rfl)) ?_
              refine W.pure (v := (.bool (sEq x34.2.1 (⟨#[50]⟩ : ByteArray)))) rfl rfl (v_move (oo rfl rfl)) ?_
              refine W.splitAt (t := 81) (b := sEq x34.2.1 (⟨#[50]⟩ : ByteArray)) rfl (fun g131 gv132 => ?_) (fun g131 gv132 => ?_)
              · have h133 := pos_inv g131 h130
                refine W.pure (v := (.string x45.1)) (gk rfl rfl gv132 rfl) rfl (v_move (oo rfl rfl)) ?_
                refine W.pure (v := (.bool (sEq x45.1 (⟨#[54]⟩ : ByteArray)))) (gk rfl rfl gv132 rfl) rfl (vs_eql (oo rfl rfl) (oo rfl rfl)) ?_
                refine W.pure (v := (.bool (sEq x45.1 (⟨#[54]⟩ : ByteArray)))) rfl rfl (v_pickT (oo rfl gv132) (oo rfl rfl)) ?_
                refine W.pure (v := (.bool (sEq x45.1 (⟨#[54]⟩ : ByteArray)))) rfl rfl (v_move (oo rfl rfl)) ?_
                refine W.splitAt (t := 85) (b := sEq x45.1 (⟨#[54]⟩ : ByteArray)) rfl (fun g134 gv135 => ?_) (fun g134 gv135 => ?_)
                · have h136 := pos_inv g134 h133
                  refine W.pure (v := (.int .i64 x56.1)) (gk rfl rfl gv135 rfl) rfl (v_move (oo rfl rfl)) ?_
                  refine W.pure (v := (.bool (x56.1 == (-1)))) (gk rfl rfl gv135 rfl) rfl (v_int (oo rfl rfl) (oo rfl rfl) rfl) ?_
                  refine W.pure (v := (.bool (x56.1 == (-1)))) rfl rfl (v_pickT (oo rfl gv135) (oo rfl rfl)) ?_
                  refine W.pure (v := (.bool (x56.1 == (-1)))) rfl rfl (v_move (oo rfl rfl)) ?_
                  refine W.splitAt (t := 89) (b := (x56.1 == (-1))) rfl (fun g137 gv138 => ?_) (fun g137 gv138 => ?_)
                  · have h139 := pos_inv g137 h136
                    refine W.pure (v := (.string x67.1)) (gk rfl rfl gv138 rfl) rfl (v_move (oo rfl rfl)) ?_
                    refine W.pure (v := (.bool (sEq x67.1 (⟨#[49, 48, 50, 52]⟩ : ByteArray)))) (gk rfl rfl gv138 rfl) rfl (vs_eql (oo rfl rfl) (oo rfl rfl)) ?_
                    refine W.pure (v := (.bool (sEq x67.1 (⟨#[49, 48, 50, 52]⟩ : ByteArray)))) rfl rfl (v_pickT (oo rfl gv138) (oo rfl rfl)) ?_
                    refine W.pure (v := (.bool (sEq x67.1 (⟨#[49, 48, 50, 52]⟩ : ByteArray)))) rfl rfl (v_move (oo rfl rfl)) ?_
                    refine W.splitAt (t := 93) (b := sEq x67.1 (⟨#[49, 48, 50, 52]⟩ : ByteArray)) rfl (fun g140 gv141 => ?_) (fun g140 gv141 => ?_)
                    · have h142 := pos_inv g140 h139
                      refine W.pure (v := (.string x78.1)) (gk rfl rfl gv141 rfl) rfl (v_move (oo rfl rfl)) ?_
                      refine W.pure (v := (.bool (sEq x78.1 (⟨#[57]⟩ : ByteArray)))) (gk rfl rfl gv141 rfl) rfl (vs_eql (oo rfl rfl) (oo rfl rfl)) ?_
                      refine W.pure (v := (.bool (sEq x78.1 (⟨#[57]⟩ : ByteArray)))) rfl rfl (v_pickT (oo rfl gv141) (oo rfl rfl)) ?_
                      refine W.pure (v := (.bool (sEq x78.1 (⟨#[57]⟩ : ByteArray)))) rfl rfl (v_move (oo rfl rfl)) ?_
                      refine W.splitAt (t := 97) (b := sEq x78.1 (⟨#[57]⟩ : ByteArray)) rfl (fun g143 gv144 => ?_) (fun g143 gv144 => ?_)
                      · have h145 := pos_inv g143 h142
                        obtain ⟨x146, i147, h148⟩ := bd_inv h145
                        refine W.lo (gk rfl rfl gv144 rfl) rfl (Lo.callP (ps := []) (ps' := []) rfl (fn := Tryd.f14) (by kernel_rfl) rfl (mc rfl mn) O100 (fun L' O' => g_nat_Check_ok K (⟨#[48, 48, 55]⟩ : ByteArray) O' _ i147)) ?_
                        rintro v155 H156 ⟨G149, O150, s151, sm154, rfl⟩
                        replace O150 : Ow G149 H156 (eSl v94 23 (rI .i64) [x1.2, x12.2, x23.2, x34.2.2, x45.2, x56.2, x67.2, x78.2] :: L) := O150
                        refine W.pure (v := (.bool (x146 == 5))) (gk rfl rfl gv144 rfl) rfl (v_int (oo rfl rfl) (oo rfl rfl) rfl) ?_
                        refine W.pure (v := (.bool (x146 == 5))) rfl rfl (v_pickT (oo rfl gv144) (oo rfl rfl)) ?_
                        refine W.pure (v := (.bool (x146 == 5))) rfl rfl (v_assign (oo rfl rfl)) ?_
                        refine .nil ?_
                        have O157 : Ow G149 H156 (L) := O150.drop 0
                        obtain rfl := Option.some.inj h148
                        exact ⟨(x146 == 5), _, rfl, O157, (GM.le.trans s101 s151), rfl⟩
                      · have h158 := neg_b g143 h142
                        refine W.skip (gk rfl rfl gv144 rfl) rfl ?_
                        refine W.skip (gk rfl rfl gv144 rfl) rfl ?_
                        refine W.pure (v := (.bool false)) rfl rfl (v_pickF (oo rfl gv144) (oo rfl rfl)) ?_
                        refine W.pure (v := (.bool false)) rfl rfl (v_assign (oo rfl rfl)) ?_
                        refine .nil ?_
                        have O159 : Ow G99 H106 (L) := O100.drop 0
                        obtain rfl := Option.some.inj h158
                        exact ⟨false, _, rfl, O159, s101, rfl⟩
                    · have h160 := neg_b g140 h139
                      refine W.skip (gk rfl rfl gv141 rfl) rfl ?_
                      refine W.skip (gk rfl rfl gv141 rfl) rfl ?_
                      refine W.pure (v := (.bool false)) rfl rfl (v_pickF (oo rfl gv141) (oo rfl rfl)) ?_
                      refine W.pure (v := (.bool false)) rfl rfl (v_move (oo rfl rfl)) ?_
                      refine W.skip (gk rfl rfl rfl rfl) rfl ?_
                      refine W.skip (gk rfl rfl rfl rfl) rfl ?_
                      refine W.pure (v := (.bool false)) rfl rfl (v_pickF (oo rfl rfl) (oo rfl rfl)) ?_
                      refine W.pure (v := (.bool false)) rfl rfl (v_assign (oo rfl rfl)) ?_
                      refine .nil ?_
                      have O161 : Ow G99 H106 (L) := O100.drop 0
                      obtain rfl := Option.some.inj h160
                      exact ⟨false, _, rfl, O161, s101, rfl⟩
                  · have h162 := neg_b g137 h136
                    refine W.skip (gk rfl rfl gv138 rfl) rfl ?_
                    refine W.skip (gk rfl rfl gv138 rfl) rfl ?_
                    refine W.pure (v := (.bool false)) rfl rfl (v_pickF (oo rfl gv138) (oo rfl rfl)) ?_
                    refine W.pure (v := (.bool false)) rfl rfl (v_move (oo rfl rfl)) ?_
                    refine W.skip (gk rfl rfl rfl rfl) rfl ?_
                    refine W.skip (gk rfl rfl rfl rfl) rfl ?_
                    refine W.pure (v := (.bool false)) rfl rfl (v_pickF (oo rfl rfl) (oo rfl rfl)) ?_
                    refine W.pure (v := (.bool false)) rfl rfl (v_move (oo rfl rfl)) ?_
                    refine W.skip (gk rfl rfl rfl rfl) rfl ?_
                    refine W.skip (gk rfl rfl rfl rfl) rfl ?_
                    refine W.pure (v := (.bool false)) rfl rfl (v_pickF (oo rfl rfl) (oo rfl rfl)) ?_
                    refine W.pure (v := (.bool false)) rfl rfl (v_assign (oo rfl rfl)) ?_
                    refine .nil ?_
                    have O163 : Ow G99 H106 (L) := O100.drop 0
                    obtain rfl := Option.some.inj h162
                    exact ⟨false, _, rfl, O163, s101, rfl⟩
                · have h164 := neg_b g134 h133
                  refine W.skip (gk rfl rfl gv135 rfl) rfl ?_
                  refine W.skip (gk rfl rfl gv135 rfl) rfl ?_
                  refine W.pure (v := (.bool false)) rfl rfl (v_pickF (oo rfl gv135) (oo rfl rfl)) ?_
                  refine W.pure (v := (.bool false)) rfl rfl (v_move (oo rfl rfl)) ?_
                  refine W.skip (gk rfl rfl rfl rfl) rfl ?_
                  refine W.skip (gk rfl rfl rfl rfl) rfl ?_
                  refine W.pure (v := (.bool false)) rfl rfl (v_pickF (oo rfl rfl) (oo rfl rfl)) ?_
                  refine W.pure (v := (.bool false)) rfl rfl (v_move (oo rfl rfl)) ?_
                  refine W.skip (gk rfl rfl rfl rfl) rfl ?_
                  refine W.skip (gk rfl rfl rfl rfl) rfl ?_
                  refine W.pure (v := (.bool false)) rfl rfl (v_pickF (oo rfl rfl) (oo rfl rfl)) ?_
                  refine W.pure (v := (.bool false)) rfl rfl (v_move (oo rfl rfl)) ?_
                  refine W.skip (gk rfl rfl rfl rfl) rfl ?_
                  refine W.skip (gk rfl rfl rfl rfl) rfl ?_
                  refine W.pure (v := (.bool false)) rfl rfl (v_pickF (oo rfl rfl) (oo rfl rfl)) ?_
                  refine W.pure (v := (.bool false)) rfl rfl (v_assign (oo rfl rfl)) ?_
                  refine .nil ?_
                  have O165 : Ow G99 H106 (L) := O100.drop 0
                  obtain rfl := Option.some.inj h164
                  exact ⟨false, _, rfl, O165, s101, rfl⟩
              · have h166 := neg_b g131 h130
                refine W.skip (gk rfl rfl gv132 rfl) rfl ?_
                refine W.skip (gk rfl rfl gv132 rfl) rfl ?_
                refine W.pure (v := (.bool false)) rfl rfl (v_pickF (oo rfl gv132) (oo rfl rfl)) ?_
                refine W.pure (v := (.bool false)) rfl rfl (v_move (oo rfl rfl)) ?_
                refine W.skip (gk rfl rfl rfl rfl) rfl ?_
                refine W.skip (gk rfl rfl rfl rfl) rfl ?_
                refine W.pure (v := (.bool false)) rfl rfl (v_pickF (oo rfl rfl) (oo rfl rfl)) ?_
                refine W.pure (v := (.bool false)) rfl rfl (v_move (oo rfl rfl)) ?_
                refine W.skip (gk rfl rfl rfl rfl) rfl ?_
                refine W.skip (gk rfl rfl rfl rfl) rfl ?_
                refine W.pure (v := (.bool false)) rfl rfl (v_pickF (oo rfl rfl) (oo rfl rfl)) ?_
                refine W.pure (v := (.bool false)) rfl rfl (v_move (oo rfl rfl)) ?_
                refine W.skip (gk rfl rfl rfl rfl) rfl ?_
                refine W.skip (gk rfl rfl rfl rfl) rfl ?_
                refine W.pure (v := (.bool false)) rfl rfl (v_pickF (oo rfl rfl) (oo rfl rfl)) ?_
                refine W.pure (v := (.bool false)) rfl rfl (v_move (oo rfl rfl)) ?_
                refine W.skip (gk rfl rfl rfl rfl) rfl ?_
                refine W.skip (gk rfl rfl rfl rfl) rfl ?_
                refine W.pure (v := (.bool false)) rfl rfl (v_pickF (oo rfl rfl) (oo rfl rfl)) ?_
                refine W.pure (v := (.bool false)) rfl rfl (v_assign (oo rfl rfl)) ?_
                refine .nil ?_
                have O167 : Ow G99 H106 (L) := O100.drop 0
                obtain rfl := Option.some.inj h166
                exact ⟨false, _, rfl, O167, s101, rfl⟩
            · have h168 := neg_b g128 h127
              refine W.skip (gk rfl rfl gv129 rfl) rfl ?_
              refine W.skip (gk rfl rfl gv129 rfl) rfl ?_
              refine W.pure (v := (.bool false)) rfl rfl (v_pickF (oo rfl gv129) (oo rfl rfl)) ?_
              refine W.pure (v := (.bool false)) rfl rfl (v_move (oo rfl rfl)) ?_
              refine W.skip (gk rfl rfl rfl rfl) rfl ?_
              refine W.skip (gk rfl rfl rfl rfl) rfl ?_
              refine W.pure (v := (.bool false)) rfl rfl (v_pickF (oo rfl rfl) (oo rfl rfl)) ?_
              refine W.pure (v := (.bool false)) rfl rfl (v_move (oo rfl rfl)) ?_
              refine W.skip (gk rfl rfl rfl rfl) rfl ?_
              refine W.skip (gk rfl rfl rfl rfl) rfl ?_
              refine W.pure (v := (.bool false)) rfl rfl (v_pickF (oo rfl rfl) (oo rfl rfl)) ?_
              refine W.pure (v := (.bool false)) rfl rfl (v_move (oo rfl rfl)) ?_
              refine W.skip (gk rfl rfl rfl rfl) rfl ?_
              refine W.skip (gk rfl rfl rfl rfl) rfl ?_
              refine W.pure (v := (.bool false)) rfl rfl (v_pickF (oo rfl rfl) (oo rfl rfl)) ?_
              refine W.pure (v := (.bool false)) rfl rfl (v_move (oo rfl rfl)) ?_
              refine W.skip (gk rfl rfl rfl rfl) rfl ?_
              refine W.skip (gk rfl rfl rfl rfl) rfl ?_
              refine W.pure (v := (.bool false)) rfl rfl (v_pickF (oo rfl rfl) (oo rfl rfl)) ?_
              refine W.pure (v := (.bool false)) rfl rfl (v_move (oo rfl rfl)) ?_
              refine W.skip (gk rfl rfl rfl rfl) rfl ?_
              refine W.skip (gk rfl rfl rfl rfl) rfl ?_
              refine W.pure (v := (.bool false)) rfl rfl (v_pickF (oo rfl rfl) (oo rfl rfl)) ?_
              refine W.pure (v := (.bool false)) rfl rfl (v_assign (oo rfl rfl)) ?_
              refine .nil ?_
              have O169 : Ow G99 H106 (L) := O100.drop 0
              obtain rfl := Option.some.inj h168
              exact ⟨false, _, rfl, O169, s101, rfl⟩
          · have h170 := neg_b g125 h124
            refine W.skip (gk rfl rfl gv126 rfl) rfl ?_
            refine W.skip (gk rfl rfl gv126 rfl) rfl ?_
            refine W.pure (v := (.bool false)) rfl rfl (v_pickF (oo rfl gv126) (oo rfl rfl)) ?_
            refine W.pure (v := (.bool false)) rfl rfl (v_move (oo rfl rfl)) ?_
            refine W.skip (gk rfl rfl rfl rfl) rfl ?_
            refine W.skip (gk rfl rfl rfl rfl) rfl ?_
            refine W.pure (v := (.bool false)) rfl rfl (v_pickF (oo rfl rfl) (oo rfl rfl)) ?_
            refine W.pure (v := (.bool false)) rfl rfl (v_move (oo rfl rfl)) ?_
            refine W.skip (gk rfl rfl rfl rfl) rfl ?_
            refine W.skip (gk rfl rfl rfl rfl) rfl ?_
            refine W.pure (v := (.bool false)) rfl rfl (v_pickF (oo rfl rfl) (oo rfl rfl)) ?_
            refine W.pure (v := (.bool false)) rfl rfl (v_move (oo rfl rfl)) ?_
            refine W.skip (gk rfl rfl rfl rfl) rfl ?_
            refine W.skip (gk rfl rfl rfl rfl) rfl ?_
            refine W.pure (v := (.bool false)) rfl rfl (v_pickF (oo rfl rfl) (oo rfl rfl)) ?_
            refine W.pure (v := (.bool false)) rfl rfl (v_move (oo rfl rfl)) ?_
            refine W.skip (gk rfl rfl rfl rfl) rfl ?_
            refine W.skip (gk rfl rfl rfl rfl) rfl ?_
            refine W.pure (v := (.bool false)) rfl rfl (v_pickF (oo rfl rfl) (oo rfl rfl)) ?_
            refine W.pure (v := (.bool false)) rfl rfl (v_move (oo rfl rfl)) ?_
            refine W.skip (gk rfl rfl rfl rfl) rfl ?_
            refine W.skip (gk rfl rfl rfl rfl) rfl ?_
            refine W.pure (v := (.bool false)) rfl rfl (v_pickF (oo rfl rfl) (oo rfl rfl)) ?_
            refine W.pure (v := (.bool false)) rfl rfl (v_move (oo rfl rfl)) ?_
            refine W.skip (gk rfl rfl rfl rfl) rfl ?_
            refine W.skip (gk rfl rfl rfl rfl) rfl ?_
            refine W.pure (v := (.bool false)) rfl rfl (v_pickF (oo rfl rfl) (oo rfl rfl)) ?_
            refine W.pure (v := (.bool false)) rfl rfl (v_assign (oo rfl rfl)) ?_
            refine .nil ?_
            have O171 : Ow G99 H106 (L) := O100.drop 0
            obtain rfl := Option.some.inj h170
            exact ⟨false, _, rfl, O171, s101, rfl⟩
        · have h172 := neg_b g119 h118
          refine W.skip (gk rfl rfl gv120 rfl) rfl ?_
          refine W.skip (gk rfl rfl gv120 rfl) rfl ?_
          refine W.pure (v := (.bool false)) rfl rfl (v_pickF (oo rfl gv120) (oo rfl rfl)) ?_
          refine W.pure (v := (.bool false)) rfl rfl (v_move (oo rfl rfl)) ?_
          refine W.skip (gk rfl rfl rfl rfl) rfl ?_
          refine W.skip (gk rfl rfl rfl rfl) rfl ?_
          refine W.pure (v := (.bool false)) rfl rfl (v_pickF (oo rfl rfl) (oo rfl rfl)) ?_
          refine W.pure (v := (.bool false)) rfl rfl (v_move (oo rfl rfl)) ?_
          refine W.skip (gk rfl rfl rfl rfl) rfl ?_
          refine W.skip (gk rfl rfl rfl rfl) rfl ?_
          refine W.pure (v := (.bool false)) rfl rfl (v_pickF (oo rfl rfl) (oo rfl rfl)) ?_
          refine W.pure (v := (.bool false)) rfl rfl (v_move (oo rfl rfl)) ?_
          refine W.skip (gk rfl rfl rfl rfl) rfl ?_
          refine W.skip (gk rfl rfl rfl rfl) rfl ?_
          refine W.pure (v := (.bool false)) rfl rfl (v_pickF (oo rfl rfl) (oo rfl rfl)) ?_
          refine W.pure (v := (.bool false)) rfl rfl (v_move (oo rfl rfl)) ?_
          refine W.skip (gk rfl rfl rfl rfl) rfl ?_
          refine W.skip (gk rfl rfl rfl rfl) rfl ?_
          refine W.pure (v := (.bool false)) rfl rfl (v_pickF (oo rfl rfl) (oo rfl rfl)) ?_
          refine W.pure (v := (.bool false)) rfl rfl (v_move (oo rfl rfl)) ?_
          refine W.skip (gk rfl rfl rfl rfl) rfl ?_
          refine W.skip (gk rfl rfl rfl rfl) rfl ?_
          refine W.pure (v := (.bool false)) rfl rfl (v_pickF (oo rfl rfl) (oo rfl rfl)) ?_
          refine W.pure (v := (.bool false)) rfl rfl (v_move (oo rfl rfl)) ?_
          refine W.skip (gk rfl rfl rfl rfl) rfl ?_
          refine W.skip (gk rfl rfl rfl rfl) rfl ?_
          refine W.pure (v := (.bool false)) rfl rfl (v_pickF (oo rfl rfl) (oo rfl rfl)) ?_
          refine W.pure (v := (.bool false)) rfl rfl (v_move (oo rfl rfl)) ?_
          refine W.skip (gk rfl rfl rfl rfl) rfl ?_
          refine W.skip (gk rfl rfl rfl rfl) rfl ?_
          refine W.pure (v := (.bool false)) rfl rfl (v_pickF (oo rfl rfl) (oo rfl rfl)) ?_
          refine W.pure (v := (.bool false)) rfl rfl (v_assign (oo rfl rfl)) ?_
          refine .nil ?_
          have O173 : Ow G99 H106 (L) := O100.drop 0
          obtain rfl := Option.some.inj h172
          exact ⟨false, _, rfl, O173, s101, rfl⟩
      · have h174 := neg_b g113 h112
        refine W.skip (gk rfl rfl gv114 rfl) rfl ?_
        refine W.skip (gk rfl rfl gv114 rfl) rfl ?_
        refine W.pure (v := (.bool false)) rfl rfl (v_pickF (oo rfl gv114) (oo rfl rfl)) ?_
        refine W.pure (v := (.bool false)) rfl rfl (v_move (oo rfl rfl)) ?_
        refine W.skip (gk rfl rfl rfl rfl) rfl ?_
        refine W.skip (gk rfl rfl rfl rfl) rfl ?_
        refine W.pure (v := (.bool false)) rfl rfl (v_pickF (oo rfl rfl) (oo rfl rfl)) ?_
        refine W.pure (v := (.bool false)) rfl rfl (v_move (oo rfl rfl)) ?_
        refine W.skip (gk rfl rfl rfl rfl) rfl ?_
        refine W.skip (gk rfl rfl rfl rfl) rfl ?_
        refine W.pure (v := (.bool false)) rfl rfl (v_pickF (oo rfl rfl) (oo rfl rfl)) ?_
        refine W.pure (v := (.bool false)) rfl rfl (v_move (oo rfl rfl)) ?_
        refine W.skip (gk rfl rfl rfl rfl) rfl ?_
        refine W.skip (gk rfl rfl rfl rfl) rfl ?_
        refine W.pure (v := (.bool false)) rfl rfl (v_pickF (oo rfl rfl) (oo rfl rfl)) ?_
        refine W.pure (v := (.bool false)) rfl rfl (v_move (oo rfl rfl)) ?_
        refine W.skip (gk rfl rfl rfl rfl) rfl ?_
        refine W.skip (gk rfl rfl rfl rfl) rfl ?_
        refine W.pure (v := (.bool false)) rfl rfl (v_pickF (oo rfl rfl) (oo rfl rfl)) ?_
        refine W.pure (v := (.bool false)) rfl rfl (v_move (oo rfl rfl)) ?_
        refine W.skip (gk rfl rfl rfl rfl) rfl ?_
        refine W.skip (gk rfl rfl rfl rfl) rfl ?_
        refine W.pure (v := (.bool false)) rfl rfl (v_pickF (oo rfl rfl) (oo rfl rfl)) ?_
        refine W.pure (v := (.bool false)) rfl rfl (v_move (oo rfl rfl)) ?_
        refine W.skip (gk rfl rfl rfl rfl) rfl ?_
        refine W.skip (gk rfl rfl rfl rfl) rfl ?_
        refine W.pure (v := (.bool false)) rfl rfl (v_pickF (oo rfl rfl) (oo rfl rfl)) ?_
        refine W.pure (v := (.bool false)) rfl rfl (v_move (oo rfl rfl)) ?_
        refine W.skip (gk rfl rfl rfl rfl) rfl ?_
        refine W.skip (gk rfl rfl rfl rfl) rfl ?_
        refine W.pure (v := (.bool false)) rfl rfl (v_pickF (oo rfl rfl) (oo rfl rfl)) ?_
        refine W.pure (v := (.bool false)) rfl rfl (v_move (oo rfl rfl)) ?_
        refine W.skip (gk rfl rfl rfl rfl) rfl ?_
        refine W.skip (gk rfl rfl rfl rfl) rfl ?_
        refine W.pure (v := (.bool false)) rfl rfl (v_pickF (oo rfl rfl) (oo rfl rfl)) ?_
        refine W.pure (v := (.bool false)) rfl rfl (v_assign (oo rfl rfl)) ?_
        refine .nil ?_
        have O175 : Ow G99 H106 (L) := O100.drop 0
        obtain rfl := Option.some.inj h174
        exact ⟨false, _, rfl, O175, s101, rfl⟩
    · have h176 := neg_b g107 h98
      refine W.skip (gk rfl rfl gv108 rfl) rfl ?_
      refine W.skip (gk rfl rfl gv108 rfl) rfl ?_
      refine W.pure (v := (.bool false)) rfl rfl (v_pickF (oo rfl gv108) (oo rfl rfl)) ?_
      refine W.pure (v := (.bool false)) rfl rfl (v_move (oo rfl rfl)) ?_
      refine W.skip (gk rfl rfl rfl rfl) rfl ?_
      refine W.skip (gk rfl rfl rfl rfl) rfl ?_
      refine W.pure (v := (.bool false)) rfl rfl (v_pickF (oo rfl rfl) (oo rfl rfl)) ?_
      refine W.pure (v := (.bool false)) rfl rfl (v_move (oo rfl rfl)) ?_
      refine W.skip (gk rfl rfl rfl rfl) rfl ?_
      refine W.skip (gk rfl rfl rfl rfl) rfl ?_
      refine W.pure (v := (.bool false)) rfl rfl (v_pickF (oo rfl rfl) (oo rfl rfl)) ?_
      refine W.pure (v := (.bool false)) rfl rfl (v_move (oo rfl rfl)) ?_
      refine W.skip (gk rfl rfl rfl rfl) rfl ?_
      refine W.skip (gk rfl rfl rfl rfl) rfl ?_
      refine W.pure (v := (.bool false)) rfl rfl (v_pickF (oo rfl rfl) (oo rfl rfl)) ?_
      refine W.pure (v := (.bool false)) rfl rfl (v_move (oo rfl rfl)) ?_
      refine W.skip (gk rfl rfl rfl rfl) rfl ?_
      refine W.skip (gk rfl rfl rfl rfl) rfl ?_
      refine W.pure (v := (.bool false)) rfl rfl (v_pickF (oo rfl rfl) (oo rfl rfl)) ?_
      refine W.pure (v := (.bool false)) rfl rfl (v_move (oo rfl rfl)) ?_
      refine W.skip (gk rfl rfl rfl rfl) rfl ?_
      refine W.skip (gk rfl rfl rfl rfl) rfl ?_
      refine W.pure (v := (.bool false)) rfl rfl (v_pickF (oo rfl rfl) (oo rfl rfl)) ?_
      refine W.pure (v := (.bool false)) rfl rfl (v_move (oo rfl rfl)) ?_
      refine W.skip (gk rfl rfl rfl rfl) rfl ?_
      refine W.skip (gk rfl rfl rfl rfl) rfl ?_
      refine W.pure (v := (.bool false)) rfl rfl (v_pickF (oo rfl rfl) (oo rfl rfl)) ?_
      refine W.pure (v := (.bool false)) rfl rfl (v_move (oo rfl rfl)) ?_
      refine W.skip (gk rfl rfl rfl rfl) rfl ?_
      refine W.skip (gk rfl rfl rfl rfl) rfl ?_
      refine W.pure (v := (.bool false)) rfl rfl (v_pickF (oo rfl rfl) (oo rfl rfl)) ?_
      refine W.pure (v := (.bool false)) rfl rfl (v_move (oo rfl rfl)) ?_
      refine W.skip (gk rfl rfl rfl rfl) rfl ?_
      refine W.skip (gk rfl rfl rfl rfl) rfl ?_
      refine W.pure (v := (.bool false)) rfl rfl (v_pickF (oo rfl rfl) (oo rfl rfl)) ?_
      refine W.pure (v := (.bool false)) rfl rfl (v_move (oo rfl rfl)) ?_
      refine W.skip (gk rfl rfl rfl rfl) rfl ?_
      refine W.skip (gk rfl rfl rfl rfl) rfl ?_
      refine W.pure (v := (.bool false)) rfl rfl (v_pickF (oo rfl rfl) (oo rfl rfl)) ?_
      refine W.pure (v := (.bool false)) rfl rfl (v_assign (oo rfl rfl)) ?_
      refine .nil ?_
      have O177 : Ow G99 H106 (L) := O100.drop 0
      obtain rfl := Option.some.inj h176
      exact ⟨false, _, rfl, O177, s101, rfl⟩
  · rintro σ179 H180 fr181 ⟨x178, G182, rfl, O183, s184, t186⟩
    have h187 := tu1_inv h91
    refine .ret ?_
    obtain rfl := Option.some.inj h187
    refine ret1R (P := Tryd.prog) (fn := Tryd.f13) (n := 101) (R := fun v H' => ∃ G', Ow G' H' (L) ∧ G.le G' ∧ v = .bool x178) (v1 := (.bool x178)) (by rfl) (rr_tmp (by rfl) (by exact t186)) ?_
    exact ⟨_, O183, (GM.le.trans s6 (GM.le.trans s17 (GM.le.trans s28 (GM.le.trans s39 (GM.le.trans s50 (GM.le.trans s61 (GM.le.trans s72 (GM.le.trans s83 s184)))))))), rfl⟩
def g_R_NatError_l0 (K : Nat) (p0 : ByteArray) : Nat → Int → Option (Int ⊕ Unit)
  | 0, _ => none
  | k + 1, x8 => (if (decide (x8 < (p0.size : Int))) = true then (Option.bind (((bidx p0 x8).bind fun x22 => (if (decide (x22 < 48)) = true then some true else ((bidx p0 x8).bind fun x29 => some (decide (x29 > 57)))))) (tu1 fun x32 => (if x32 = true then some (.inl 5) else g_R_NatError_l0 K p0 k (kwrap .i64 (x8 + 1))))) else some (.inr ()))
def g_R_NatError (K : Nat) (p0 : ByteArray) : Option Int := (if ((p0.size : Int) == 0) = true then some 5 else (bindS (g_R_NatError_l0 K p0 K 0) (tu1 fun a81 => some a81) (tu0 (Option.bind ((if (decide ((p0.size : Int) > 1)) = true then ((bidx p0 0).bind fun x61 => some (x61 == 48)) else some false)) (tu1 fun x65 => (if x65 = true then some 5 else (if (decide ((p0.size : Int) > 2000)) = true then some 2 else some 0)))))))
set_option maxHeartbeats 4000000 in
theorem g_R_NatError_ok (K : Nat) {G : GM} {H : AH} {L : List Pc} (p0 : ByteArray) (O : Ow G H (L)) (r : Int) (h : g_R_NatError K p0 = some r) :
    CR Tryd.prog 15 [(.string p0)] G H (L) (fun v G' _ => v = .int .i64 r) := by
  unfold g_R_NatError at h
  refine CR.of (calls_of_AW (n := 34) (fn := Tryd.f15) (R := fun v H' => ∃ G', Ow G' H' (L) ∧ G.le G' ∧ v = .int .i64 r) (by kernel_rfl) rfl rfl ?_)
  refine .seq ?_
  refine .region ?_
  refine W.pure (v := (.int .i64 0)) rfl rfl (v_assign (oo rfl rfl)) ?_
  refine .nil ?_
  refine .seq ?_
  refine .seq ?_
  refine .region ?_
  refine W.pure (v := (.string p0)) rfl rfl (v_move (oo rfl rfl)) ?_
  refine W.pure (v := (.int .i64 (p0.size : Int))) rfl rfl (len_str (oo rfl rfl) un9) ?_
  refine W.pure (v := (.bool ((p0.size : Int) == 0))) rfl rfl (v_int (oo rfl rfl) (oo rfl rfl) rfl) ?_
  refine .nil ?_
  refine .cond (b := ((p0.size : Int) == 0)) rfl rfl (fun g1 => ?_) (fun g1 => ?_)
  · have h2 := pos_inv g1 h
    refine .seq ?_
    refine .region ?_
    refine W.pure (v := (.int .i64 5)) rfl rfl (v_assign (oo rfl rfl)) ?_
    refine .nil ?_
    refine .ret ?_
    obtain rfl := Option.some.inj h2
    refine ret1R (P := Tryd.prog) (fn := Tryd.f15) (n := 34) (R := fun v H' => ∃ G', Ow G' H' (L) ∧ G.le G' ∧ v = .int .i64 5) (v1 := (.int .i64 5)) (by rfl) (rr_tmp (by rfl) (by exact rfl)) ?_
    exact ⟨_, O, (GM.le.refl _), rfl⟩
  · have h3 := neg_b g1 h
    refine .skip ?_
    refine .seq ?_
    refine .seq ?_
    refine .region ?_
    refine W.pure (v := (.int .i64 0)) rfl rfl (v_assign (oo rfl rfl)) ?_
    refine .nil ?_
    obtain ⟨q4, h5, h6⟩ := bindS_inv h3
    refine AW.midT (fun σ' H' => ∃  (G' : GM), (.inr ()) = q4 ∧ Ow G' H' (L) ∧ GM.le G G') ?_ ?_
    · refine .block ?_
      refine AW.loop (α := Nat) (fun k' σ' H' => ∃ (y1 : Int) (G' : GM), g_R_NatError_l0 K p0 k' y1 = some q4 ∧ Ow G' H' (L) ∧ GM.le G G' ∧ σ' 3 = .int .i64 y1) (fun k' => k') K ⟨0, _, h5, O, (GM.le.refl _), rfl⟩ ?_
      rintro k7
      rintro σ9 H10 fr11 ⟨x8, G12, h15, O13, s14, t16⟩
      rcases k7 with _ | k7
      · exact none_absurd h15
      rw [g_R_NatError_l0] at h15
      refine .seq ?_
      refine .seq ?_
      refine .region ?_
      refine W.pure (v := (.int .i64 x8)) rfl rfl (v_move (oo rfl t16)) ?_
      refine W.pure (v := (.string p0)) rfl rfl (v_move (oo rfl ((fr11 0 rfl).trans rfl))) ?_
      refine W.pure (v := (.int .i64 (p0.size : Int))) rfl rfl (len_str (oo rfl rfl) un9) ?_
      refine W.pure (v := (.bool (decide (x8 < (p0.size : Int))))) rfl rfl (v_int (oo rfl rfl) (oo rfl rfl) rfl) ?_
      refine .nil ?_
      refine .cond (b := decide (x8 < (p0.size : Int))) rfl rfl (fun g17 => ?_) (fun g17 => ?_)
      · have h18 := pos_inv g17 h15
        refine .skip ?_
        refine .seq ?_
        refine .block ?_
        refine .seq ?_
        obtain ⟨q19, h20, h21⟩ := bd_inv h18
        refine AW.midT (fun σ' H' => ∃ (y1 : Bool) (G' : GM), y1 = q19 ∧ Ow G' H' (L) ∧ GM.le G12 G' ∧ σ' 22 = .bool y1) ?_ ?_
        · refine .region ?_
          refine W.pure (v := (.string p0)) rfl rfl (v_move (oo rfl ((fr11 0 rfl).trans rfl))) ?_
          refine W.pure (v := (.int .i64 x8)) rfl rfl (v_move (oo rfl t16)) ?_
          obtain ⟨x22, i23, h24⟩ := bd_inv h20
          refine W.pure (v := (.int .u8 x22)) rfl rfl (v_sidx un9 (oo rfl rfl) (oo rfl rfl) i23) ?_
          refine W.pure (v := (.bool (decide (x22 < 48)))) rfl rfl (v_int (oo rfl rfl) (oo rfl rfl) rfl) ?_
          refine W.pure (v := (.bool (decide (x22 < 48)))) rfl rfl (v_move (oo rfl rfl)) ?_
          refine W.splitAt (t := 17) (b := decide (x22 < 48)) rfl (fun g25 gv26 => ?_) (fun g25 gv26 => ?_)
          · have h27 := pos_inv g25 h24
            refine W.skip (gk rfl rfl gv26 rfl) rfl ?_
            refine W.skip (gk rfl rfl gv26 rfl) rfl ?_
            refine W.skip (gk rfl rfl gv26 rfl) rfl ?_
            refine W.skip (gk rfl rfl gv26 rfl) rfl ?_
            refine W.pure (v := (.bool true)) rfl rfl (v_pickT (oo rfl gv26) (oo rfl rfl)) ?_
            refine .nil ?_
            obtain rfl := Option.some.inj h27
            exact ⟨true, _, rfl, O13, (GM.le.refl _), rfl⟩
          · have h28 := neg_b g25 h24
            refine W.pure (v := (.string p0)) (gk rfl rfl gv26 rfl) rfl (v_move (oo rfl ((fr11 0 rfl).trans rfl))) ?_
            refine W.pure (v := (.int .i64 x8)) (gk rfl rfl gv26 rfl) rfl (v_move (oo rfl t16)) ?_
            obtain ⟨x29, i30, h31⟩ := bd_inv h28
            refine W.pure (v := (.int .u8 x29)) (gk rfl rfl gv26 rfl) rfl (v_sidx un9 (oo rfl rfl) (oo rfl rfl) i30) ?_
            refine W.pure (v := (.bool (decide (x29 > 57)))) (gk rfl rfl gv26 rfl) rfl (v_int (oo rfl rfl) (oo rfl rfl) rfl) ?_
            refine W.pure (v := (.bool (decide (x29 > 57)))) rfl rfl (v_pickF (oo rfl gv26) (oo rfl rfl)) ?_
            refine .nil ?_
            obtain rfl := Option.some.inj h31
            exact ⟨decide (x29 > 57), _, rfl, O13, (GM.le.refl _), rfl⟩
        · rintro σ33 H34 fr35 ⟨x32, G36, rfl, O37, s38, t40⟩
          have h41 := tu1_inv h21
          refine .cond (b := x32) rfl t40 (fun g42 => ?_) (fun g42 => ?_)
          · have h43 := pos_inv g42 h41
            refine .seq ?_
            refine .region ?_
            refine W.pure (v := (.int .i64 5)) rfl rfl (v_assign (oo rfl rfl)) ?_
            refine .nil ?_
            refine .ret ?_
            obtain rfl := Option.some.inj h43
            have h44 := tu1_inv (outS_l h6)
            obtain rfl := Option.some.inj h44
            refine ret1R (P := Tryd.prog) (fn := Tryd.f15) (n := 34) (R := fun v H' => ∃ G', Ow G' H' (L) ∧ G.le G' ∧ v = .int .i64 5) (v1 := (.int .i64 5)) (by rfl) (rr_tmp (by rfl) (by exact rfl)) ?_
            exact ⟨_, O37, (GM.le.trans s14 s38), rfl⟩
          · have h45 := neg_b g42 h41
            refine .skip ?_
            refine .region ?_
            refine W.pure (v := (.int .i64 x8)) rfl rfl (v_move (oo rfl ((fr35 3 rfl).trans t16))) ?_
            refine W.pure (v := (.int .i64 (kwrap .i64 (x8 + 1)))) rfl rfl (v_int (oo rfl rfl) (oo rfl rfl) rfl) ?_
            refine W.pure (v := (.int .i64 (kwrap .i64 (x8 + 1)))) rfl rfl (v_assign (oo rfl rfl)) ?_
            refine .nil ?_
            exact ⟨k7, Nat.lt_succ_self _, ⟨kwrap .i64 (x8 + 1), _, h45, O37, (GM.le.trans s14 s38), rfl⟩⟩
      · have h46 := neg_b g17 h15
        refine .exit ?_
        obtain rfl := Option.some.inj h46
        exact ⟨_, rfl, O13, s14⟩
    · rintro σ47 H48 fr49 ⟨G50, rfl, O51, s52⟩
      have h54 := tu0_inv (outS_r h6)
      refine .seq ?_
      refine .seq ?_
      obtain ⟨q55, h56, h57⟩ := bd_inv h54
      refine AW.midT (fun σ' H' => ∃ (y1 : Bool) (G' : GM), y1 = q55 ∧ Ow G' H' (L) ∧ GM.le G50 G' ∧ σ' 30 = .bool y1) ?_ ?_
      · refine .region ?_
        refine W.pure (v := (.string p0)) rfl rfl (v_move (oo rfl ((fr49 0 rfl).trans rfl))) ?_
        refine W.pure (v := (.int .i64 (p0.size : Int))) rfl rfl (len_str (oo rfl rfl) un9) ?_
        refine W.pure (v := (.bool (decide ((p0.size : Int) > 1)))) rfl rfl (v_int (oo rfl rfl) (oo rfl rfl) rfl) ?_
        refine W.pure (v := (.bool (decide ((p0.size : Int) > 1)))) rfl rfl (v_move (oo rfl rfl)) ?_
        refine W.splitAt (t := 26) (b := decide ((p0.size : Int) > 1)) rfl (fun g58 gv59 => ?_) (fun g58 gv59 => ?_)
        · have h60 := pos_inv g58 h56
          refine W.pure (v := (.string p0)) (gk rfl rfl gv59 rfl) rfl (v_move (oo rfl ((fr49 0 rfl).trans rfl))) ?_
          obtain ⟨x61, i62, h63⟩ := bd_inv h60
          refine W.pure (v := (.int .u8 x61)) (gk rfl rfl gv59 rfl) rfl (v_sidx un9 (oo rfl rfl) (oo rfl rfl) i62) ?_
          refine W.pure (v := (.bool (x61 == 48))) (gk rfl rfl gv59 rfl) rfl (v_int (oo rfl rfl) (oo rfl rfl) rfl) ?_
          refine W.pure (v := (.bool (x61 == 48))) rfl rfl (v_pickT (oo rfl gv59) (oo rfl rfl)) ?_
          refine .nil ?_
          obtain rfl := Option.some.inj h63
          exact ⟨(x61 == 48), _, rfl, O51, (GM.le.refl _), rfl⟩
        · have h64 := neg_b g58 h56
          refine W.skip (gk rfl rfl gv59 rfl) rfl ?_
          refine W.skip (gk rfl rfl gv59 rfl) rfl ?_
          refine W.skip (gk rfl rfl gv59 rfl) rfl ?_
          refine W.pure (v := (.bool false)) rfl rfl (v_pickF (oo rfl gv59) (oo rfl rfl)) ?_
          refine .nil ?_
          obtain rfl := Option.some.inj h64
          exact ⟨false, _, rfl, O51, (GM.le.refl _), rfl⟩
      · rintro σ66 H67 fr68 ⟨x65, G69, rfl, O70, s71, t73⟩
        have h74 := tu1_inv h57
        refine .cond (b := x65) rfl t73 (fun g75 => ?_) (fun g75 => ?_)
        · have h76 := pos_inv g75 h74
          refine .seq ?_
          refine .region ?_
          refine W.pure (v := (.int .i64 5)) rfl rfl (v_assign (oo rfl rfl)) ?_
          refine .nil ?_
          refine .ret ?_
          obtain rfl := Option.some.inj h76
          refine ret1R (P := Tryd.prog) (fn := Tryd.f15) (n := 34) (R := fun v H' => ∃ G', Ow G' H' (L) ∧ G.le G' ∧ v = .int .i64 5) (v1 := (.int .i64 5)) (by rfl) (rr_tmp (by rfl) (by exact rfl)) ?_
          exact ⟨_, O70, (GM.le.trans s52 s71), rfl⟩
        · have h77 := neg_b g75 h74
          refine .skip ?_
          refine .seq ?_
          refine .seq ?_
          refine .region ?_
          refine W.pure (v := (.string p0)) rfl rfl (v_move (oo rfl ((fr68 0 rfl).trans ((fr49 0 rfl).trans rfl)))) ?_
          refine W.pure (v := (.int .i64 (p0.size : Int))) rfl rfl (len_str (oo rfl rfl) un9) ?_
          refine W.pure (v := (.bool (decide ((p0.size : Int) > 2000)))) rfl rfl (v_int (oo rfl rfl) (oo rfl rfl) rfl) ?_
          refine .nil ?_
          refine .cond (b := decide ((p0.size : Int) > 2000)) rfl rfl (fun g78 => ?_) (fun g78 => ?_)
          · have h79 := pos_inv g78 h77
            refine .seq ?_
            refine .region ?_
            refine W.pure (v := (.int .i64 2)) rfl rfl (v_assign (oo rfl rfl)) ?_
            refine .nil ?_
            refine .ret ?_
            obtain rfl := Option.some.inj h79
            refine ret1R (P := Tryd.prog) (fn := Tryd.f15) (n := 34) (R := fun v H' => ∃ G', Ow G' H' (L) ∧ G.le G' ∧ v = .int .i64 2) (v1 := (.int .i64 2)) (by rfl) (rr_tmp (by rfl) (by exact rfl)) ?_
            exact ⟨_, O70, (GM.le.trans s52 s71), rfl⟩
          · have h80 := neg_b g78 h77
            refine .skip ?_
            refine .seq ?_
            refine .region ?_
            refine W.pure (v := (.int .i64 0)) rfl rfl (v_assign (oo rfl rfl)) ?_
            refine .nil ?_
            refine .ret ?_
            obtain rfl := Option.some.inj h80
            refine ret1R (P := Tryd.prog) (fn := Tryd.f15) (n := 34) (R := fun v H' => ∃ G', Ow G' H' (L) ∧ G.le G' ∧ v = .int .i64 0) (v1 := (.int .i64 0)) (by rfl) (rr_tmp (by rfl) (by exact rfl)) ?_
            exact ⟨_, O70, (GM.le.trans s52 s71), rfl⟩
def g_law_NatChecks (K : Nat) (p0 : ByteArray) : Option Bool := (Option.bind (((g_law_natFact K ).bind fun x4 => (if x4 = true then ((g_nat_Check K p0).bind fun x18 => ((g_R_NatError K p0).bind fun x29 => some (x18 == x29))) else some false))) (tu1 fun x41 => some x41))
set_option maxHeartbeats 4000000 in
theorem g_law_NatChecks_ok (K : Nat) {G : GM} {H : AH} {L : List Pc} (p0 : ByteArray) (O : Ow G H (L)) (r : Bool) (h : g_law_NatChecks K p0 = some r) :
    CR Tryd.prog 3 [(.string p0)] G H (L) (fun v G' _ => v = .bool r) := by
  unfold g_law_NatChecks at h
  refine CR.of (calls_of_AW (n := 11) (fn := Tryd.f3) (R := fun v H' => ∃ G', Ow G' H' (L) ∧ G.le G' ∧ v = .bool r) (by kernel_rfl) rfl rfl ?_)
  refine .seq ?_
  refine .region ?_
  refine W.pure (v := (.bool false)) rfl rfl (v_assign (oo rfl rfl)) ?_
  refine .nil ?_
  refine .seq ?_
  obtain ⟨q1, h2, h3⟩ := bd_inv h
  refine AW.midT (fun σ' H' => ∃ (y1 : Bool) (G' : GM), y1 = q1 ∧ Ow G' H' (L) ∧ GM.le G G' ∧ σ' 2 = .bool y1) ?_ ?_
  · refine .region ?_
    obtain ⟨x4, i5, h6⟩ := bd_inv h2
    refine W.lo rfl rfl (Lo.callP (ps := []) (ps' := []) rfl (fn := Tryd.f13) (by kernel_rfl) rfl mn O (fun L' O' => g_law_natFact_ok K  O' _ i5)) ?_
    rintro v13 H14 ⟨G7, O8, s9, sm12, rfl⟩
    replace O8 : Ow G7 H14 (L) := O8
    refine W.pure (v := (.bool x4)) rfl rfl (v_move (oo rfl rfl)) ?_
    refine W.splitAt (t := 4) (b := x4) rfl (fun g15 gv16 => ?_) (fun g15 gv16 => ?_)
    · have h17 := pos_inv g15 h6
      refine W.pure (v := (.string p0)) (gk rfl rfl gv16 rfl) rfl (v_move (oo rfl rfl)) ?_
      obtain ⟨x18, i19, h20⟩ := bd_inv h17
      refine W.lo (gk rfl rfl gv16 rfl) rfl (Lo.callP (ps := []) (ps' := []) rfl (fn := Tryd.f14) (by kernel_rfl) rfl (mc rfl mn) O8 (fun L' O' => g_nat_Check_ok K p0 O' _ i19)) ?_
      rintro v27 H28 ⟨G21, O22, s23, sm26, rfl⟩
      replace O22 : Ow G21 H28 (L) := O22
      refine W.pure (v := (.string p0)) (gk rfl rfl gv16 rfl) rfl (v_move (oo rfl rfl)) ?_
      obtain ⟨x29, i30, h31⟩ := bd_inv h20
      refine W.lo (gk rfl rfl gv16 rfl) rfl (Lo.callP (ps := []) (ps' := []) rfl (fn := Tryd.f15) (by kernel_rfl) rfl (mc rfl mn) O22 (fun L' O' => g_R_NatError_ok K p0 O' _ i30)) ?_
      rintro v38 H39 ⟨G32, O33, s34, sm37, rfl⟩
      replace O33 : Ow G32 H39 (L) := O33
      refine W.pure (v := (.bool (x18 == x29))) (gk rfl rfl gv16 rfl) rfl (v_int (oo rfl rfl) (oo rfl rfl) rfl) ?_
      refine W.pure (v := (.bool (x18 == x29))) rfl rfl (v_pickT (oo rfl gv16) (oo rfl rfl)) ?_
      refine W.pure (v := (.bool (x18 == x29))) rfl rfl (v_assign (oo rfl rfl)) ?_
      refine .nil ?_
      obtain rfl := Option.some.inj h31
      exact ⟨(x18 == x29), _, rfl, O33, (GM.le.trans s9 (GM.le.trans s23 s34)), rfl⟩
    · have h40 := neg_b g15 h6
      refine W.skip (gk rfl rfl gv16 rfl) rfl ?_
      refine W.skip (gk rfl rfl gv16 rfl) rfl ?_
      refine W.skip (gk rfl rfl gv16 rfl) rfl ?_
      refine W.skip (gk rfl rfl gv16 rfl) rfl ?_
      refine W.skip (gk rfl rfl gv16 rfl) rfl ?_
      refine W.pure (v := (.bool false)) rfl rfl (v_pickF (oo rfl gv16) (oo rfl rfl)) ?_
      refine W.pure (v := (.bool false)) rfl rfl (v_assign (oo rfl rfl)) ?_
      refine .nil ?_
      obtain rfl := Option.some.inj h40
      exact ⟨false, _, rfl, O8, s9, rfl⟩
  · rintro σ42 H43 fr44 ⟨x41, G45, rfl, O46, s47, t49⟩
    have h50 := tu1_inv h3
    refine .ret ?_
    obtain rfl := Option.some.inj h50
    refine ret1R (P := Tryd.prog) (fn := Tryd.f3) (n := 11) (R := fun v H' => ∃ G', Ow G' H' (L) ∧ G.le G' ∧ v = .bool x41) (v1 := (.bool x41)) (by rfl) (rr_tmp (by rfl) (by exact t49)) ?_
    exact ⟨_, O46, s47, rfl⟩
end Go.Am.Tryd
