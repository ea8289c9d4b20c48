/- Typed functions with the same answers as the program's, and the walks that show it. -/
import Derived.Test.YtlcdhgcfamjioaaFa9
import Derived.Test.YtlcdhgcfamjioaaWg3b
namespace Go.Am.Try
open Go Go.Am Go.Proofs
set_option linter.unusedVariables false
set_option linter.unusedSimpArgs false
set_option maxRecDepth 10000

def g_graph_Check_l0 (K : Nat) (p0 : Int) (p1 : List (List Int)) : Nat → Int → Option (Int ⊕ Unit)
  | 0, _ => none
  | k + 1, x29 => (if (decide (x29 < (List.length p1 : Int))) = true then ((idx p1 x29).bind fun x40 => (Option.bind (((idx x40 0).bind fun x59 => (if (decide (x59 < 0)) = true then some true else ((idx x40 0).bind fun x67 => (if (decide (x67 ≥ p0)) = true then some true else ((idx x40 1).bind fun x75 => (if (decide (x75 < 0)) = true then some true else ((idx x40 1).bind fun x83 => some (decide (x83 ≥ p0)))))))))) (tu1 fun x87 => (if x87 = true then some (.inl 4) else g_graph_Check_l0 K p0 p1 k (kwrap .i64 (x29 + 1)))))) else some (.inr ()))
def g_graph_Check (K : Nat) (p0 : Int) (p1 : List (List Int)) : Option Int := (Option.bind ((if (decide (p0 < 0)) = true then some true else (if (decide (p0 > 24)) = true then some true else some (decide ((List.length p1 : Int) > 64))))) (tu1 fun x12 => (if x12 = true then some 2 else (bindS (g_graph_Check_l0 K p0 p1 K 0) (tu1 fun a112 => some a112) (tu0 (some 0))))))
set_option maxHeartbeats 4000000 in
theorem g_graph_Check_ok (K : Nat) {G : GM} {H : AH} {L : List Pc} (p0 : Int) (v1 : Value) (p1 : List (List Int)) (hp1 : (rSl (rArr 2 (rI .i64))).rep G [v1] p1) (O : Ow G H (L)) (r : Int) (h : g_graph_Check K p0 p1 = some r) :
    CR Try.prog 13 [(.int .i64 p0), v1] G H (L) (fun v G' _ => v = .int .i64 r) := by
  unfold g_graph_Check at h
  refine CR.of (calls_of_AW (n := 45) (fn := Try.f13) (R := fun v H' => ∃ G', Ow G' H' (L) ∧ G.le G' ∧ v = .int .i64 r) (by kernel_rfl) rfl rfl ?_)
  refine .seq ?_
  refine .region ?_
  refine W.pure (v := (.int .i64 0)) rfl rfl (v_assign (oo rfl rfl)) ?_
  refine .nil ?_
  refine .seq ?_
  refine .seq ?_
  obtain ⟨q1, h2, h3⟩ := bd_inv h
  refine AW.midT (fun σ' H' => ∃ (y1 : Bool) (G' : GM), y1 = q1 ∧ Ow G' H' (L) ∧ GM.le G G' ∧ σ' 17 = .bool y1) ?_ ?_
  · refine .region ?_
    refine W.pure (v := (.int .i64 p0)) rfl rfl (v_move (oo rfl rfl)) ?_
    refine W.pure (v := (.bool (decide (p0 < 0)))) rfl rfl (v_int (oo rfl rfl) (oo rfl rfl) rfl) ?_
    refine W.pure (v := (.bool (decide (p0 < 0)))) rfl rfl (v_move (oo rfl rfl)) ?_
    refine W.splitAt (t := 9) (b := decide (p0 < 0)) rfl (fun g4 gv5 => ?_) (fun g4 gv5 => ?_)
    · have h6 := pos_inv g4 h2
      refine W.skip (gk rfl rfl gv5 rfl) rfl ?_
      refine W.skip (gk rfl rfl gv5 rfl) rfl ?_
      refine W.pure (v := (.bool true)) rfl rfl (v_pickT (oo rfl gv5) (oo rfl rfl)) ?_
      refine W.pure (v := (.bool true)) rfl rfl (v_move (oo rfl rfl)) ?_
      refine W.skip (gk rfl rfl rfl rfl) rfl ?_
      refine W.skip (gk rfl rfl rfl rfl) rfl ?_
      refine W.skip (gk rfl rfl rfl rfl) rfl ?_
      refine W.pure (v := (.bool true)) rfl rfl (v_pickT (oo rfl rfl) (oo rfl rfl)) ?_
      refine .nil ?_
      obtain rfl := Option.some.inj h6
      exact ⟨true, _, rfl, O, (GM.le.refl _), rfl⟩
    · have h7 := neg_b g4 h2
      refine W.pure (v := (.int .i64 p0)) (gk rfl rfl gv5 rfl) rfl (v_move (oo rfl rfl)) ?_
      refine W.pure (v := (.bool (decide (p0 > 24)))) (gk rfl rfl gv5 rfl) rfl (v_int (oo rfl rfl) (oo rfl rfl) rfl) ?_
      refine W.pure (v := (.bool (decide (p0 > 24)))) rfl rfl (v_pickF (oo rfl gv5) (oo rfl rfl)) ?_
      refine W.pure (v := (.bool (decide (p0 > 24)))) rfl rfl (v_move (oo rfl rfl)) ?_
      refine W.splitAt (t := 13) (b := decide (p0 > 24)) rfl (fun g8 gv9 => ?_) (fun g8 gv9 => ?_)
      · have h10 := pos_inv g8 h7
        refine W.skip (gk rfl rfl gv9 rfl) rfl ?_
        refine W.skip (gk rfl rfl gv9 rfl) rfl ?_
        refine W.skip (gk rfl rfl gv9 rfl) rfl ?_
        refine W.pure (v := (.bool true)) rfl rfl (v_pickT (oo rfl gv9) (oo rfl rfl)) ?_
        refine .nil ?_
        obtain rfl := Option.some.inj h10
        exact ⟨true, _, rfl, O, (GM.le.refl _), rfl⟩
      · have h11 := neg_b g8 h7
        refine W.pure (v := v1) (gk rfl rfl gv9 rfl) rfl (v_move (oo rfl rfl)) ?_
        refine W.pure (v := (.int .i64 (List.length p1 : Int))) (gk rfl rfl gv9 rfl) rfl (len_sl (oo rfl rfl) (sl_len hp1) (elemT_inv el22)) ?_
        refine W.pure (v := (.bool (decide ((List.length p1 : Int) > 64)))) (gk rfl rfl gv9 rfl) rfl (v_int (oo rfl rfl) (oo rfl rfl) rfl) ?_
        refine W.pure (v := (.bool (decide ((List.length p1 : Int) > 64)))) rfl rfl (v_pickF (oo rfl gv9) (oo rfl rfl)) ?_
        refine .nil ?_
        obtain rfl := Option.some.inj h11
        exact ⟨decide ((List.length p1 : Int) > 64), _, rfl, O, (GM.le.refl _), rfl⟩
  · rintro σ13 H14 fr15 ⟨x12, G16, rfl, O17, s18, t20⟩
    have h21 := tu1_inv h3
    refine .cond (b := x12) rfl t20 (fun g22 => ?_) (fun g22 => ?_)
    · have h23 := pos_inv g22 h21
      refine .seq ?_
      refine .region ?_
      refine W.pure (v := (.int .i64 2)) rfl rfl (v_assign (oo rfl rfl)) ?_
      refine .nil ?_
      refine .ret ?_
      obtain rfl := Option.some.inj h23
      refine ret1R (P := Try.prog) (fn := Try.f13) (n := 45) (R := fun v H' => ∃ G', Ow G' H' (L) ∧ G.le G' ∧ v = .int .i64 2) (v1 := (.int .i64 2)) (by rfl) (rr_tmp (by rfl) (by exact rfl)) ?_
      exact ⟨_, O17, s18, rfl⟩
    · have h24 := neg_b g22 h21
      refine .skip ?_
      refine .seq ?_
      refine .seq ?_
      refine .region ?_
      refine W.pure (v := v1) rfl rfl (v_move (oo rfl ((fr15 1 rfl).trans rfl))) ?_
      refine W.pure (v := (.int .i64 (List.length p1 : Int))) rfl rfl (len_sl (oo rfl rfl) (sl_len (RT.mono _ s18 hp1)) (elemT_inv el22)) ?_
      refine W.pure (v := (.int .i64 0)) rfl rfl (v_move (oo rfl rfl)) ?_
      refine .nil ?_
      obtain ⟨q25, h26, h27⟩ := bindS_inv h24
      refine AW.midT (fun σ' H' => ∃  (G' : GM), (.inr ()) = q25 ∧ Ow G' H' (L) ∧ GM.le G16 G') ?_ ?_
      · refine .block ?_
        refine AW.loop (α := Nat) (fun k' σ' H' => ∃ (y1 : Int) (G' : GM), g_graph_Check_l0 K p0 p1 k' y1 = some q25 ∧ Ow G' H' (L) ∧ GM.le G16 G' ∧ σ' 20 = .int .i64 y1) (fun k' => k') K ⟨0, _, h26, O17, (GM.le.refl _), rfl⟩ ?_
        rintro k28
        rintro σ30 H31 fr32 ⟨x29, G33, h36, O34, s35, t37⟩
        rcases k28 with _ | k28
        · exact none_absurd h36
        rw [g_graph_Check_l0] at h36
        refine .seq ?_
        refine .region ?_
        refine W.pure (v := (.bool (decide (x29 < (List.length p1 : Int))))) rfl rfl (v_int (oo rfl t37) (oo rfl ((fr32 19 rfl).trans rfl)) rfl) ?_
        refine .nil ?_
        refine .seq ?_
        refine .cond (b := decide (x29 < (List.length p1 : Int))) rfl rfl (fun g38 => ?_) (fun g38 => ?_)
        · have h39 := pos_inv g38 h36
          refine .skip ?_
          refine .seq ?_
          refine .block ?_
          refine .seq ?_
          refine .region ?_
          obtain ⟨x40, i41, h42⟩ := bd_inv h39
          have j43 := idx_inv i41
          refine W.pure (v := (selem v1 (Int.toNat x29 * 2))) rfl rfl (v_idx el22 sz29 (oo rfl ((fr32 18 rfl).trans rfl)) (oo rfl t37) (sl_len (RT.mono _ (GM.le.trans s18 s35) hp1)) j43.1 j43.2.1) ?_
          obtain ⟨c44, p45, f46⟩ := (At.le (At.le (sl_idx hp1 j43.2.2) (GM.le.trans s18 s35) (GM.le.trans s18 s35)) (GM.le.refl _) O34.fro)
          refine W.loadA (cs := c44) rfl rfl ag29 sz29 (pt_px rfl p45) (RT.len _ f46) ?_
          refine W.lo rfl rfl (Lo.alloc (r := (rArr 2 (rI .i64))) (x0 := (List.replicate 2 0)) ze29 (by kernel_rfl) (fun G => ⟨by simp, List.replicate 2 [.int .i64 0], rfl, All2.replicate ((zI .i64) G) 2⟩) O34) ?_
          rintro v50 H51 ⟨b48, rfl, O47, sm49⟩
          refine W.lo rfl rfl (Lo.storeVar (j := 0) (s := (rArr 2 (rI .i64))) (y0 := x40) (v := (.agg (List.toArray c44))) (o := 0) rfl ((Put.at (Put.self _) _ _)) rfl sz29 rfl (by omega) rfl f46 O47) ?_
          rintro v54 H55 ⟨O52, sm53⟩
          replace O52 : Ow G33 H55 (eVar b48 29 (rArr 2 (rI .i64)) x40 :: L) := O52
          refine .nil ?_
          refine .seq ?_
          obtain ⟨q56, h57, h58⟩ := bd_inv h42
          refine AW.midT (fun σ' H' => ∃ (y1 : Bool) (G' : GM), y1 = q56 ∧ Ow G' H' (eVar b48 29 (rArr 2 (rI .i64)) x40 :: L) ∧ GM.le G33 G' ∧ σ' 43 = .bool y1) ?_ ?_
          · refine .region ?_
            obtain ⟨x59, i60, h61⟩ := bd_inv h57
            have j62 := idx_inv i60
            refine W.pure (v := (padd (.pointer (some ⟨b48, 0, none⟩)) (Int.toNat 0 * 1))) rfl rfl (v_idxAA ar29 sz3 (oo rfl rfl) (oo rfl rfl) (O52.atVar (j := 0) rfl) j62.1 j62.2.1) ?_
            refine W.load1 (v := (.int .i64 x59)) (r := []) rfl rfl ag3 (pt_px rfl (At.int (At.aidx (O52.atVar (j := 0) rfl) j62.2.2))) ?_
            refine W.pure (v := (.bool (decide (x59 < 0)))) rfl rfl (v_int (oo rfl rfl) (oo rfl rfl) rfl) ?_
            refine W.pure (v := (.bool (decide (x59 < 0)))) rfl rfl (v_move (oo rfl rfl)) ?_
            refine W.splitAt (t := 27) (b := decide (x59 < 0)) rfl (fun g63 gv64 => ?_) (fun g63 gv64 => ?_)
            · have h65 := pos_inv g63 h61
              refine W.skip (gk rfl rfl gv64 rfl) rfl ?_
              refine W.skip (gk rfl rfl gv64 rfl) rfl ?_
              refine W.skip (gk rfl rfl gv64 rfl) rfl ?_
              refine W.skip (gk rfl rfl gv64 rfl) rfl ?_
              refine W.pure (v := (.bool true)) rfl rfl (v_pickT (oo rfl gv64) (oo rfl rfl)) ?_
              refine W.pure (v := (.bool true)) rfl rfl (v_move (oo rfl rfl)) ?_
              refine W.skip (gk rfl rfl rfl rfl) rfl ?_
              refine W.skip (gk rfl rfl rfl rfl) rfl ?_
              refine W.skip (gk rfl rfl rfl rfl) rfl ?_
              refine W.pure (v := (.bool true)) rfl rfl (v_pickT (oo rfl rfl) (oo rfl rfl)) ?_
              refine W.pure (v := (.bool true)) rfl rfl (v_move (oo rfl rfl)) ?_
              refine W.skip (gk rfl rfl rfl rfl) rfl ?_
              refine W.skip (gk rfl rfl rfl rfl) rfl ?_
              refine W.skip (gk rfl rfl rfl rfl) rfl ?_
              refine W.skip (gk rfl rfl rfl rfl) rfl ?_
              refine W.pure (v := (.bool true)) rfl rfl (v_pickT (oo rfl rfl) (oo rfl rfl)) ?_
              refine .nil ?_
              obtain rfl := Option.some.inj h65
              exact ⟨true, _, rfl, O52, (GM.le.refl _), rfl⟩
            · have h66 := neg_b g63 h61
              obtain ⟨x67, i68, h69⟩ := bd_inv h66
              have j70 := idx_inv i68
              refine W.pure (v := (padd (.pointer (some ⟨b48, 0, none⟩)) (Int.toNat 0 * 1))) (gk rfl rfl gv64 rfl) rfl (v_idxAA ar29 sz3 (oo rfl rfl) (oo rfl rfl) (O52.atVar (j := 0) rfl) j70.1 j70.2.1) ?_
              refine W.load1 (v := (.int .i64 x67)) (r := []) (gk rfl rfl gv64 rfl) rfl ag3 (pt_px rfl (At.int (At.aidx (O52.atVar (j := 0) rfl) j70.2.2))) ?_
              refine W.pure (v := (.int .i64 p0)) (gk rfl rfl gv64 rfl) rfl (v_move (oo rfl ((fr32 0 rfl).trans ((fr15 0 rfl).trans rfl)))) ?_
              refine W.pure (v := (.bool (decide (x67 ≥ p0)))) (gk rfl rfl gv64 rfl) rfl (v_int (oo rfl rfl) (oo rfl rfl) rfl) ?_
              refine W.pure (v := (.bool (decide (x67 ≥ p0)))) rfl rfl (v_pickF (oo rfl gv64) (oo rfl rfl)) ?_
              refine W.pure (v := (.bool (decide (x67 ≥ p0)))) rfl rfl (v_move (oo rfl rfl)) ?_
              refine W.splitAt (t := 33) (b := decide (x67 ≥ p0)) rfl (fun g71 gv72 => ?_) (fun g71 gv72 => ?_)
              · have h73 := pos_inv g71 h69
                refine W.skip (gk rfl rfl gv72 rfl) rfl ?_
                refine W.skip (gk rfl rfl gv72 rfl) rfl ?_
                refine W.skip (gk rfl rfl gv72 rfl) rfl ?_
                refine W.pure (v := (.bool true)) rfl rfl (v_pickT (oo rfl gv72) (oo rfl rfl)) ?_
                refine W.pure (v := (.bool true)) rfl rfl (v_move (oo rfl rfl)) ?_
                refine W.skip (gk rfl rfl rfl rfl) rfl ?_
                refine W.skip (gk rfl rfl rfl rfl) rfl ?_
                refine W.skip (gk rfl rfl rfl rfl) rfl ?_
                refine W.skip (gk rfl rfl rfl rfl) rfl ?_
                refine W.pure (v := (.bool true)) rfl rfl (v_pickT (oo rfl rfl) (oo rfl rfl)) ?_
                refine .nil ?_
                obtain rfl := Option.some.inj h73
                exact ⟨true, _, rfl, O52, (GM.le.refl _), rfl⟩
              · have h74 := neg_b g71 h69
                obtain ⟨x75, i76, h77⟩ := bd_inv h74
                have j78 := idx_inv i76
                refine W.pure (v := (padd (.pointer (some ⟨b48, 0, none⟩)) (Int.toNat 1 * 1))) (gk rfl rfl gv72 rfl) rfl (v_idxAA ar29 sz3 (oo rfl rfl) (oo rfl rfl) (O52.atVar (j := 0) rfl) j78.1 j78.2.1) ?_
                refine W.load1 (v := (.int .i64 x75)) (r := []) (gk rfl rfl gv72 rfl) rfl ag3 (pt_px rfl (At.int (At.aidx (O52.atVar (j := 0) rfl) j78.2.2))) ?_
                refine W.pure (v := (.bool (decide (x75 < 0)))) (gk rfl rfl gv72 rfl) rfl (v_int (oo rfl rfl) (oo rfl rfl) rfl) ?_
                refine W.pure (v := (.bool (decide (x75 < 0)))) rfl rfl (v_pickF (oo rfl gv72) (oo rfl rfl)) ?_
                refine W.pure (v := (.bool (decide (x75 < 0)))) rfl rfl (v_move (oo rfl rfl)) ?_
                refine W.splitAt (t := 38) (b := decide (x75 < 0)) rfl (fun g79 gv80 => ?_) (fun g79 gv80 => ?_)
                · have h81 := pos_inv g79 h77
                  refine W.skip (gk rfl rfl gv80 rfl) rfl ?_
                  refine W.skip (gk rfl rfl gv80 rfl) rfl ?_
                  refine W.skip (gk rfl rfl gv80 rfl) rfl ?_
                  refine W.skip (gk rfl rfl gv80 rfl) rfl ?_
                  refine W.pure (v := (.bool true)) rfl rfl (v_pickT (oo rfl gv80) (oo rfl rfl)) ?_
                  refine .nil ?_
                  obtain rfl := Option.some.inj h81
                  exact ⟨true, _, rfl, O52, (GM.le.refl _), rfl⟩
                · have h82 := neg_b g79 h77
                  obtain ⟨x83, i84, h85⟩ := bd_inv h82
                  have j86 := idx_inv i84
                  refine W.pure (v := (padd (.pointer (some ⟨b48, 0, none⟩)) (Int.toNat 1 * 1))) (gk rfl rfl gv80 rfl) rfl (v_idxAA ar29 sz3 (oo rfl rfl) (oo rfl rfl) (O52.atVar (j := 0) rfl) j86.1 j86.2.1) ?_
                  refine W.load1 (v := (.int .i64 x83)) (r := []) (gk rfl rfl gv80 rfl) rfl ag3 (pt_px rfl (At.int (At.aidx (O52.atVar (j := 0) rfl) j86.2.2))) ?_
                  refine W.pure (v := (.int .i64 p0)) (gk rfl rfl gv80 rfl) rfl (v_move (oo rfl ((fr32 0 rfl).trans ((fr15 0 rfl).trans rfl)))) ?_
                  refine W.pure (v := (.bool (decide (x83 ≥ p0)))) (gk rfl rfl gv80 rfl) rfl (v_int (oo rfl rfl) (oo rfl rfl) rfl) ?_
                  refine W.pure (v := (.bool (decide (x83 ≥ p0)))) rfl rfl (v_pickF (oo rfl gv80) (oo rfl rfl)) ?_
                  refine .nil ?_
                  obtain rfl := Option.some.inj h85
                  exact ⟨decide (x83 ≥ p0), _, rfl, O52, (GM.le.refl _), rfl⟩
          · rintro σ88 H89 fr90 ⟨x87, G91, rfl, O92, s93, t95⟩
            have h96 := tu1_inv h58
            refine .cond (b := x87) rfl t95 (fun g97 => ?_) (fun g97 => ?_)
            · have h98 := pos_inv g97 h96
              refine .seq ?_
              refine .region ?_
              refine W.pure (v := (.int .i64 4)) rfl rfl (v_assign (oo rfl rfl)) ?_
              refine .nil ?_
              refine .ret ?_
              have O99 : Ow G91 H89 (L) := O92.drop 0
              obtain rfl := Option.some.inj h98
              have h100 := tu1_inv (outS_l h27)
              obtain rfl := Option.some.inj h100
              refine ret1R (P := Try.prog) (fn := Try.f13) (n := 45) (R := fun v H' => ∃ G', Ow G' H' (L) ∧ G.le G' ∧ v = .int .i64 4) (v1 := (.int .i64 4)) (by rfl) (rr_tmp (by rfl) (by exact rfl)) ?_
              exact ⟨_, O99, (GM.le.trans s18 (GM.le.trans s35 s93)), rfl⟩
            · have h101 := neg_b g97 h96
              refine .skip ?_
              refine .region ?_
              refine W.pure (v := (.int .i64 (kwrap .i64 (x29 + 1)))) rfl rfl (v_int (oo rfl ((fr90 20 rfl).trans t37)) (oo rfl rfl) rfl) ?_
              refine W.pure (v := (.int .i64 (kwrap .i64 (x29 + 1)))) rfl rfl (v_move (oo rfl rfl)) ?_
              refine .nil ?_
              have O102 : Ow G91 H89 (L) := O92.drop 0
              exact ⟨k28, Nat.lt_succ_self _, ⟨kwrap .i64 (x29 + 1), _, h101, O102, (GM.le.trans s35 s93), rfl⟩⟩
        · have h103 := neg_b g38 h36
          refine .exit ?_
          obtain rfl := Option.some.inj h103
          exact ⟨_, rfl, O34, s35⟩
      · rintro σ104 H105 fr106 ⟨G107, rfl, O108, s109⟩
        have h111 := tu0_inv (outS_r h27)
        refine .seq ?_
        refine .region ?_
        refine W.pure (v := (.int .i64 0)) rfl rfl (v_assign (oo rfl rfl)) ?_
        refine .nil ?_
        refine .ret ?_
        obtain rfl := Option.some.inj h111
        refine ret1R (P := Try.prog) (fn := Try.f13) (n := 45) (R := fun v H' => ∃ G', Ow G' H' (L) ∧ G.le G' ∧ v = .int .i64 0) (v1 := (.int .i64 0)) (by rfl) (rr_tmp (by rfl) (by exact rfl)) ?_
        exact ⟨_, O108, (GM.le.trans s18 s109), rfl⟩
def g_graph_Way_l4 (K : Nat) (x35 : Int) (x71 : List Int) (x103 : Int) (x107 : Int) : Nat → List Int → Bool → Int → Option (List Int × Bool)
  | 0, _, _, _ => none
  | k + 1, x121, x122, x123 => (if (decide (x123 < 2)) = true then (Option.bind (((idx [x71, [x103, x107]] x123).bind fun x138 => (Option.bind (((idx x138 0).bind fun x155 => ((idx x121 x155).bind fun x159 => (if (x159 == x35) = true then ((idx x138 1).bind fun x166 => ((idx x121 x166).bind fun x170 => some (decide (x170 < 0)))) else some false)))) (tu1 fun x175 => (if x175 = true then ((idx x138 1).bind fun x187 => ((idx x121 x187).bind fun x191 => some ((List.set x121 (Int.toNat x187) (kwrap .i64 (x35 + 1))), true))) else some (x121, x122)))))) (tu2 fun x202 x203 => g_graph_Way_l4 K x35 x71 x103 x107 k x202 x203 (kwrap .i64 (x123 + 1)))) else some (x121, x122))
def g_graph_Way_l2 (K : Nat) (p1 : List (List Int)) (p4 : Int → Option Bool) (x35 : Int) : Nat → List Int → Bool → Int → Option (List Int × Bool)
  | 0, _, _, _ => none
  | k + 1, x54, x55, x56 => (if (decide (x56 < (List.length p1 : Int))) = true then (Option.bind (((idx p1 x56).bind fun x71 => ((p4 x56).bind fun x87 => (if (!x87) = true then some (x54, x55) else ((idx x71 1).bind fun x103 => ((idx x71 0).bind fun x107 => (Option.bind (g_graph_Way_l4 K x35 x71 x103 x107 K x54 x55 0) (tu2 fun x214 x215 => some (x214, x215))))))))) (tu2 fun x226 x227 => g_graph_Way_l2 K p1 p4 x35 k x226 x227 (kwrap .i64 (x56 + 1)))) else some (x54, x55))
def g_graph_Way_l0 (K : Nat) (p2 : Int) (p1 : List (List Int)) (p4 : Int → Option Bool) : Nat → List Int → Int → Option ((List Int × Bool) ⊕ (List Int))
  | 0, _, _ => none
  | k + 1, x34, x35 => ((idx x34 p2).bind fun x44 => (if (decide (x44 < 0)) = true then (Option.bind (g_graph_Way_l2 K p1 p4 x35 K x34 false 0) (tu2 fun x238 x239 => (Option.bind ((if (!x239) = true then ((idx x238 p2).bind fun x255 => some (decide (x255 < 0))) else some false)) (tu1 fun x260 => (if x260 = true then some (.inl ([], false)) else g_graph_Way_l0 K p2 p1 p4 k x238 (kwrap .i64 (x35 + 1))))))) else some (.inr x34)))
def g_graph_Way_l8 (K : Nat) (p1 : List (List Int)) (p4 : Int → Option Bool) (x277 : List Int) (x291 : List Int) (x292 : Int) : Nat → Int → Option (List Int × Int)
  | 0, _ => none
  | k + 1, x307 => (if (decide (x307 < (List.length p1 : Int))) = true then ((idx p1 x307).bind fun x320 => ((idx x320 0).bind fun x336 => ((idx x320 1).bind fun x340 => (Option.bind (((p4 x307).bind fun x352 => (if x352 = true then ((idx x320 0).bind fun x364 => (if (x364 == x292) = true then ((idx x277 (kwrap .i64 ((kwrap .i64 (x336 + x340)) - x292))).bind fun x371 => ((idx x277 x292).bind fun x375 => some (x371 == (kwrap .i64 (x375 - 1))))) else ((idx x320 1).bind fun x380 => (if (x380 == x292) = true then ((idx x277 (kwrap .i64 ((kwrap .i64 (x336 + x340)) - x292))).bind fun x387 => ((idx x277 x292).bind fun x391 => some (x387 == (kwrap .i64 (x391 - 1))))) else some false)))) else some false))) (tu1 fun x397 => (if x397 = true then (if List.length x291 + List.length [x307] ≤ 16777216 then some ((x291 ++ [x307]), kwrap .i64 ((kwrap .i64 (x336 + x340)) - x292)) else none) else g_graph_Way_l8 K p1 p4 x277 x291 x292 k (kwrap .i64 (x307 + 1)))))))) else some (x291, x292))
def g_graph_Way_l6 (K : Nat) (p3 : Int) (p1 : List (List Int)) (p4 : Int → Option Bool) (x277 : List Int) : Nat → List Int → Int → Option (List Int)
  | 0, _, _ => none
  | k + 1, x291, x292 => (if (x292 != p3) = true then (Option.bind (g_graph_Way_l8 K p1 p4 x277 x291 x292 K 0) (tu2 fun x427 x428 => g_graph_Way_l6 K p3 p1 p4 x277 k x427 x428)) else some x291)
def g_graph_Way (K : Nat) (p0 : Int) (p1 : List (List Int)) (p2 : Int) (p3 : Int) (p4 : Int → Option Bool) : Option (List Int × Bool) := ((g_slices_Repeat_int K [(-1)] p0).bind fun x9 => ((idx x9 p3).bind fun x22 => (bindS (g_graph_Way_l0 K p2 p1 p4 K (List.set x9 (Int.toNat p3) 0) 0) (tu2 fun a451 a452 => some (a451, a452)) (tu1 fun x277 => (Option.bind (g_graph_Way_l6 K p3 p1 p4 x277 K [] p2) (tu1 fun x441 => some (x441, true)))))))
set_option maxHeartbeats 4000000 in
theorem g_graph_Way_ok (K : Nat) {G : GM} {H : AH} {L : List Pc} (p0 : Int) (v1 : Value) (p1 : List (List Int)) (hp1 : (rSl (rArr 2 (rI .i64))).rep G [v1] p1) (p2 : Int) (p3 : Int) (v4 : Value) (p4 : Int → Option Bool) (hp4 : FnOk Try.prog G v4 (fun _ vs (x : (Int)) => vs = [.int .i64 x]) (fun _ v (r : (Bool)) => v = .bool r) p4) (O : Ow G H (L)) (r : List Int × Bool) (h : g_graph_Way K p0 p1 p2 p3 p4 = some r) :
    CRF Try.prog 58 [(.int .i64 p0), v1, (.int .i64 p2), (.int .i64 p3), v4] G H (fun w0 => (eSl w0 3 (rI .i64) r.1 :: L)) (fun w0 v G' => v = .tuple #[w0, .bool r.2]) := by
  unfold g_graph_Way at h
  refine CRF.of (calls_of_AW (n := 140) (fn := Try.f58) (R := fun v H' => ∃ w0 G', Ow G' H' (eSl w0 3 (rI .i64) r.1 :: L) ∧ G.le G' ∧ v = .tuple #[w0, .bool r.2]) (by kernel_rfl) rfl rfl ?_)
  refine .seq ?_
  refine .region ?_
  refine W.pure (v := (.slice none 0 0)) rfl rfl (v_assign (oo rfl rfl)) ?_
  refine W.pure (v := (.bool false)) rfl rfl (v_assign (oo rfl rfl)) ?_
  refine .nil ?_
  refine .seq ?_
  refine .region ?_
  refine W.lo rfl rfl (Lo.buildSlice (r := (rI .i64)) (vs := [(.int .i64 (-1))]) (xs := [(-1)]) el24 ze3 sz3 (by kernel_rfl) rfl (qc rfl qn) rfl (.cons rfl .nil) O) ?_
  rintro v3 H4 ⟨O1, sm2⟩
  refine W.pure (v := (.int .i64 p0)) rfl rfl (v_move (oo rfl rfl)) ?_
  obtain ⟨G5, O6, s7, f8⟩ := O1.frzSl (j := 0) rfl
  replace O6 : Ow G5 H4 (L) := O6
  obtain ⟨x9, i10, h11⟩ := bd_inv h
  refine W.lo rfl rfl (Lo.callPF (ps := []) (pw := fun w => [eSl w 3 (rI .i64) x9]) rfl (fn := Try.f97) (by kernel_rfl) rfl (mc rfl (mc rfl mn)) O6 (fun L' O' => g_slices_Repeat_int_ok K v3 [(-1)] f8 p0 O' _ i10)) ?_
  rintro v20 H21 ⟨w17, G12, O13, s14, sm19, rfl⟩
  replace O13 : Ow G12 H21 (eSl w17 3 (rI .i64) x9 :: L) := O13
  refine W.pure (v := w17) rfl rfl (v_assign (oo rfl rfl)) ?_
  refine .nil ?_
  refine .seq ?_
  refine .region ?_
  refine W.pure (v := w17) rfl rfl (v_move (oo rfl rfl)) ?_
  refine W.pure (v := (.int .i64 p3)) rfl rfl (v_move (oo rfl rfl)) ?_
  obtain ⟨x22, i23, h24⟩ := bd_inv h11
  have j25 := idx_inv i23
  refine W.pure (v := (selem w17 (Int.toNat p3 * 1))) rfl rfl (v_idx el24 sz3 (oo rfl rfl) (oo rfl rfl) (O13.slLen (j := 0) rfl) j25.1 j25.2.1) ?_
  refine W.lo rfl rfl (Lo.storeSl0 (j := 0) (y0 := 0) (v := (.int .i64 0)) rfl j25.2.2  rfl sz3 rfl rfl rfl O13) ?_
  rintro v28 H29 ⟨O26, sm27⟩
  replace O26 : Ow G12 H29 (eSl w17 3 (rI .i64) (List.set x9 (Int.toNat p3) 0) :: L) := O26
  refine .nil ?_
  refine .seq ?_
  refine .seq ?_
  refine .region ?_
  refine W.pure (v := (.int .i64 0)) rfl rfl (v_assign (oo rfl rfl)) ?_
  refine .nil ?_
  obtain ⟨q30, h31, h32⟩ := bindS_inv h24
  refine AW.midT (fun σ' H' => ∃ (y1 : List Int) (G' : GM), (.inr y1) = q30 ∧ Ow G' H' (eSl w17 3 (rI .i64) y1 :: L) ∧ GM.le G12 G') ?_ ?_
  · refine .block ?_
    refine AW.loop (α := Nat) (fun k' σ' H' => ∃ (y1 : List Int) (y2 : Int) (G' : GM), g_graph_Way_l0 K p2 p1 p4 k' y1 y2 = some q30 ∧ Ow G' H' (eSl w17 3 (rI .i64) y1 :: L) ∧ GM.le G12 G' ∧ σ' 13 = .int .i64 y2) (fun k' => k') K ⟨(List.set x9 (Int.toNat p3) 0), 0, _, h31, O26, (GM.le.refl _), rfl⟩ ?_
    rintro k33
    rintro σ36 H37 fr38 ⟨x34, x35, G39, h42, O40, s41, t43⟩
    rcases k33 with _ | k33
    · exact none_absurd h42
    rw [g_graph_Way_l0] at h42
    refine .seq ?_
    refine .seq ?_
    refine .region ?_
    refine W.pure (v := w17) rfl rfl (v_move (oo rfl ((fr38 12 rfl).trans rfl))) ?_
    refine W.pure (v := (.int .i64 p2)) rfl rfl (v_move (oo rfl ((fr38 2 rfl).trans rfl))) ?_
    obtain ⟨x44, i45, h46⟩ := bd_inv h42
    have j47 := idx_inv i45
    refine W.pure (v := (selem w17 (Int.toNat p2 * 1))) rfl rfl (v_idx el24 sz3 (oo rfl rfl) (oo rfl rfl) (O40.slLen (j := 0) rfl) j47.1 j47.2.1) ?_
    refine W.load1 (v := (.int .i64 x44)) (r := []) rfl rfl ag3 (pt_px rfl (At.int (O40.atSl (j := 0) rfl j47.2.2))) ?_
    refine W.pure (v := (.bool (decide (x44 < 0)))) rfl rfl (v_int (oo rfl rfl) (oo rfl rfl) rfl) ?_
    refine .nil ?_
    refine .cond (b := decide (x44 < 0)) rfl rfl (fun g48 => ?_) (fun g48 => ?_)
    · have h49 := pos_inv g48 h46
      refine .skip ?_
      refine .seq ?_
      refine .block ?_
      refine .seq ?_
      refine .region ?_
      refine W.pure (v := (.bool false)) rfl rfl (v_assign (oo rfl rfl)) ?_
      refine .nil ?_
      refine .seq ?_
      refine .seq ?_
      refine .region ?_
      refine W.pure (v := v1) rfl rfl (v_move (oo rfl ((fr38 1 rfl).trans rfl))) ?_
      refine W.pure (v := (.int .i64 (List.length p1 : Int))) rfl rfl (len_sl (oo rfl rfl) (sl_len (RT.mono _ (GM.le.trans s7 (GM.le.trans s14 s41)) hp1)) (elemT_inv el22)) ?_
      refine W.pure (v := (.int .i64 0)) rfl rfl (v_move (oo rfl rfl)) ?_
      refine .nil ?_
      obtain ⟨q50, h51, h52⟩ := bd_inv h49
      refine AW.midT (fun σ' H' => ∃ (y1 : List Int) (y2 : Bool) (G' : GM), (y1, y2) = q50 ∧ Ow G' H' (eSl w17 3 (rI .i64) y1 :: L) ∧ GM.le G39 G' ∧ σ' 14 = .bool y2) ?_ ?_
      · refine .block ?_
        refine AW.loop (α := Nat) (fun k' σ' H' => ∃ (y1 : List Int) (y2 : Bool) (y3 : Int) (G' : GM), g_graph_Way_l2 K p1 p4 x35 k' y1 y2 y3 = some q50 ∧ Ow G' H' (eSl w17 3 (rI .i64) y1 :: L) ∧ GM.le G39 G' ∧ σ' 14 = .bool y2 ∧ σ' 38 = .int .i64 y3) (fun k' => k') K ⟨x34, false, 0, _, h51, O40, (GM.le.refl _), rfl, rfl⟩ ?_
        rintro k53
        rintro σ57 H58 fr59 ⟨x54, x55, x56, G60, h63, O61, s62, t64, t65⟩
        rcases k53 with _ | k53
        · exact none_absurd h63
        rw [g_graph_Way_l2] at h63
        refine .seq ?_
        refine .region ?_
        refine W.pure (v := (.bool (decide (x56 < (List.length p1 : Int))))) rfl rfl (v_int (oo rfl t65) (oo rfl ((fr59 37 rfl).trans rfl)) rfl) ?_
        refine .nil ?_
        refine .seq ?_
        refine .cond (b := decide (x56 < (List.length p1 : Int))) rfl rfl (fun g66 => ?_) (fun g66 => ?_)
        · have h67 := pos_inv g66 h63
          refine .skip ?_
          refine .seq ?_
          obtain ⟨q68, h69, h70⟩ := bd_inv h67
          refine AW.midT (fun σ' H' => ∃ (y1 : List Int) (y2 : Bool) (G' : GM), (y1, y2) = q68 ∧ Ow G' H' (eSl w17 3 (rI .i64) y1 :: L) ∧ GM.le G60 G' ∧ σ' 14 = .bool y2) ?_ ?_
          · refine .block ?_
            refine .seq ?_
            refine .region ?_
            refine W.pure (v := (.int .i64 x56)) rfl rfl (v_move (oo rfl t65)) ?_
            obtain ⟨x71, i72, h73⟩ := bd_inv h69
            have j74 := idx_inv i72
            refine W.pure (v := (selem v1 (Int.toNat x56 * 2))) rfl rfl (v_idx el22 sz29 (oo rfl ((fr59 36 rfl).trans rfl)) (oo rfl t65) (sl_len (RT.mono _ (GM.le.trans s7 (GM.le.trans s14 (GM.le.trans s41 s62))) hp1)) j74.1 j74.2.1) ?_
            obtain ⟨c75, p76, f77⟩ := (At.le (At.le (sl_idx hp1 j74.2.2) (GM.le.trans s7 (GM.le.trans s14 (GM.le.trans s41 s62))) (GM.le.trans s7 (GM.le.trans s14 (GM.le.trans s41 s62)))) (GM.le.refl _) O61.fro)
            refine W.loadA (cs := c75) rfl rfl ag29 sz29 (pt_px rfl p76) (RT.len _ f77) ?_
            refine W.lo rfl rfl (Lo.alloc (r := (rArr 2 (rI .i64))) (x0 := (List.replicate 2 0)) ze29 (by kernel_rfl) (fun G => ⟨by simp, List.replicate 2 [.int .i64 0], rfl, All2.replicate ((zI .i64) G) 2⟩) O61) ?_
            rintro v81 H82 ⟨b79, rfl, O78, sm80⟩
            refine W.pure (v := (.int .i64 x56)) rfl rfl (v_assign (oo rfl rfl)) ?_
            refine W.lo rfl rfl (Lo.storeVar (j := 0) (s := (rArr 2 (rI .i64))) (y0 := x71) (v := (.agg (List.toArray c75))) (o := 0) rfl ((Put.at (Put.self _) _ _)) rfl sz29 rfl (by omega) rfl f77 O78) ?_
            rintro v85 H86 ⟨O83, sm84⟩
            replace O83 : Ow G60 H86 (eVar b79 29 (rArr 2 (rI .i64)) x71 :: eSl w17 3 (rI .i64) x54 :: L) := O83
            refine .nil ?_
            refine .seq ?_
            refine .seq ?_
            refine .region ?_
            refine W.pure (v := v4) rfl rfl (v_move (oo rfl ((fr59 4 rfl).trans ((fr38 4 rfl).trans rfl)))) ?_
            refine W.pure (v := (.int .i64 x56)) rfl rfl (v_move (oo rfl rfl)) ?_
            obtain ⟨x87, i88, h89⟩ := bd_inv h73
            refine W.lo rfl rfl (Lo.callF (x0 := x56) rfl rfl (FnOk.le hp4 (GM.le.trans s7 (GM.le.trans s14 (GM.le.trans s41 s62)))) (mc rfl mn) rfl i88 O83) ?_
            rintro v94 H95 ⟨G90, O91, s92, sm93, rfl⟩
            refine W.pure (v := (.bool (!x87))) rfl rfl (bool_not (a := x87) (oo rfl rfl)) ?_
            refine .nil ?_
            refine .cond (b := (!x87)) rfl rfl (fun g96 => ?_) (fun g96 => ?_)
            · have h97 := pos_inv g96 h89
              refine .exit ?_
              have O98 : Ow G90 H95 (eSl w17 3 (rI .i64) x54 :: L) := O91.drop 0
              obtain rfl := Option.some.inj h97
              exact ⟨x54, x55, _, rfl, O98, s92, t64⟩
            · have h99 := neg_b g96 h89
              refine .skip ?_
              refine .seq ?_
              refine .region ?_
              obtain ⟨c100, p101, f102⟩ := (O91.atVar (j := 0) rfl)
              refine W.loadA (cs := c100) rfl rfl ag29 sz29 (pt_px rfl p101) (RT.len _ f102) ?_
              obtain ⟨x103, i104, h105⟩ := bd_inv h99
              have j106 := idx_inv i104
              refine W.pure (v := (padd (.pointer (some ⟨b79, 0, none⟩)) (Int.toNat 1 * 1))) rfl rfl (v_idxAA ar29 sz3 (oo rfl rfl) (oo rfl rfl) (O91.atVar (j := 0) rfl) j106.1 j106.2.1) ?_
              refine W.load1 (v := (.int .i64 x103)) (r := []) rfl rfl ag3 (pt_px rfl (At.int (At.aidx (O91.atVar (j := 0) rfl) j106.2.2))) ?_
              obtain ⟨x107, i108, h109⟩ := bd_inv h105
              have j110 := idx_inv i108
              refine W.pure (v := (padd (.pointer (some ⟨b79, 0, none⟩)) (Int.toNat 0 * 1))) rfl rfl (v_idxAA ar29 sz3 (oo rfl rfl) (oo rfl rfl) (O91.atVar (j := 0) rfl) j110.1 j110.2.1) ?_
              refine W.load1 (v := (.int .i64 x107)) (r := []) rfl rfl ag3 (pt_px rfl (At.int (At.aidx (O91.atVar (j := 0) rfl) j110.2.2))) ?_
              obtain ⟨c111, e113, f112⟩ := v_buildAA (P := Try.prog) (r := (rI .i64)) (vs := [(.int .i64 x103), (.int .i64 x107)]) (xs := [x103, x107]) ar29 sz3 ze29 zo29 rfl (by kernel_rfl) (.cons rfl (.cons rfl .nil))
              refine W.pure (v := .agg (List.toArray c111)) rfl rfl (e113 (opndP_oo rfl (qc rfl (qc rfl qn)))) ?_
              obtain ⟨c114, e116, f115⟩ := v_buildAA (P := Try.prog) (r := (rArr 2 (rI .i64))) (vs := [(.agg (List.toArray c100)), (.agg (List.toArray c111))]) (xs := [x71, [x103, x107]]) ar135 sz29 ze135 zo135 rfl (by kernel_rfl) (.cons f102 (.cons f112 .nil))
              refine W.pure (v := .agg (List.toArray c114)) rfl rfl (e116 (opndP_oo rfl (qc rfl (qc rfl qn)))) ?_
              refine W.pure (v := (.int .i64 0)) rfl rfl (v_move (oo rfl rfl)) ?_
              refine .nil ?_
              obtain ⟨q117, h118, h119⟩ := bd_inv h109
              refine AW.midT (fun σ' H' => ∃ (y1 : List Int) (y2 : Bool) (G' : GM), (y1, y2) = q117 ∧ Ow G' H' (eVar b79 29 (rArr 2 (rI .i64)) x71 :: eSl w17 3 (rI .i64) y1 :: L) ∧ GM.le G90 G' ∧ σ' 14 = .bool y2) ?_ ?_
              · refine .block ?_
                refine AW.loop (α := Nat) (fun k' σ' H' => ∃ (y1 : List Int) (y2 : Bool) (y3 : Int) (G' : GM), g_graph_Way_l4 K x35 x71 x103 x107 k' y1 y2 y3 = some q117 ∧ Ow G' H' (eVar b79 29 (rArr 2 (rI .i64)) x71 :: eSl w17 3 (rI .i64) y1 :: L) ∧ GM.le G90 G' ∧ σ' 14 = .bool y2 ∧ σ' 54 = .int .i64 y3) (fun k' => k') K ⟨x54, x55, 0, _, h118, O91, (GM.le.refl _), t64, rfl⟩ ?_
                rintro k120
                rintro σ124 H125 fr126 ⟨x121, x122, x123, G127, h130, O128, s129, t131, t132⟩
                rcases k120 with _ | k120
                · exact none_absurd h130
                rw [g_graph_Way_l4] at h130
                refine .seq ?_
                refine .region ?_
                refine W.pure (v := (.bool (decide (x123 < 2)))) rfl rfl (v_int (oo rfl t132) (oo rfl rfl) rfl) ?_
                refine .nil ?_
                refine .seq ?_
                refine .cond (b := decide (x123 < 2)) rfl rfl (fun g133 => ?_) (fun g133 => ?_)
                · have h134 := pos_inv g133 h130
                  refine .skip ?_
                  refine .seq ?_
                  obtain ⟨q135, h136, h137⟩ := bd_inv h134
                  refine AW.midT (fun σ' H' => ∃ (y1 : List Int) (y2 : Bool) (G' : GM), (y1, y2) = q135 ∧ Ow G' H' (eVar b79 29 (rArr 2 (rI .i64)) x71 :: eSl w17 3 (rI .i64) y1 :: L) ∧ GM.le G127 G' ∧ σ' 14 = .bool y2) ?_ ?_
                  · refine .block ?_
                    refine .seq ?_
                    refine .region ?_
                    obtain ⟨x138, i139, h140⟩ := bd_inv h136
                    have j141 := idx_inv i139
                    have f142 := (arr_idx (RT.mono _ s129 f115) j141.2.2).1
                    refine W.pure (v := .agg (List.toArray ((List.drop (Int.toNat x123 * 2) c114).take 2))) rfl rfl (v_indexAA ar135 sz29 ag29 (oo rfl ((fr126 53 rfl).trans rfl)) (oo rfl t132) (RT.mono _ s129 f115) j141.1 j141.2.1) ?_
                    refine W.lo rfl rfl (Lo.alloc (r := (rArr 2 (rI .i64))) (x0 := (List.replicate 2 0)) ze29 (by kernel_rfl) (fun G => ⟨by simp, List.replicate 2 [.int .i64 0], rfl, All2.replicate ((zI .i64) G) 2⟩) O128) ?_
                    rintro v146 H147 ⟨b144, rfl, O143, sm145⟩
                    refine W.lo rfl rfl (Lo.storeVar (j := 0) (s := (rArr 2 (rI .i64))) (y0 := x138) (v := (.agg (List.toArray ((List.drop (Int.toNat x123 * 2) c114).take 2)))) (o := 0) rfl ((Put.at (Put.self _) _ _)) rfl sz29 rfl (by omega) rfl f142 O143) ?_
                    rintro v150 H151 ⟨O148, sm149⟩
                    replace O148 : Ow G127 H151 (eVar b144 29 (rArr 2 (rI .i64)) x138 :: eVar b79 29 (rArr 2 (rI .i64)) x71 :: eSl w17 3 (rI .i64) x121 :: L) := O148
                    refine .nil ?_
                    refine .seq ?_
                    obtain ⟨q152, h153, h154⟩ := bd_inv h140
                    refine AW.midT (fun σ' H' => ∃ (y1 : Bool) (G' : GM), y1 = q152 ∧ Ow G' H' (eVar b144 29 (rArr 2 (rI .i64)) x138 :: eVar b79 29 (rArr 2 (rI .i64)) x71 :: eSl w17 3 (rI .i64) x121 :: L) ∧ GM.le G127 G' ∧ σ' 71 = .bool y1) ?_ ?_
                    · refine .region ?_
                      refine W.pure (v := w17) rfl rfl (v_move (oo rfl ((fr126 12 rfl).trans ((fr59 12 rfl).trans ((fr38 12 rfl).trans rfl))))) ?_
                      obtain ⟨x155, i156, h157⟩ := bd_inv h153
                      have j158 := idx_inv i156
                      refine W.pure (v := (padd (.pointer (some ⟨b144, 0, none⟩)) (Int.toNat 0 * 1))) rfl rfl (v_idxAA ar29 sz3 (oo rfl rfl) (oo rfl rfl) (O148.atVar (j := 0) rfl) j158.1 j158.2.1) ?_
                      refine W.load1 (v := (.int .i64 x155)) (r := []) rfl rfl ag3 (pt_px rfl (At.int (At.aidx (O148.atVar (j := 0) rfl) j158.2.2))) ?_
                      obtain ⟨x159, i160, h161⟩ := bd_inv h157
                      have j162 := idx_inv i160
                      refine W.pure (v := (selem w17 (Int.toNat x155 * 1))) rfl rfl (v_idx el24 sz3 (oo rfl rfl) (oo rfl rfl) (O148.slLen (j := 2) rfl) j162.1 j162.2.1) ?_
                      refine W.load1 (v := (.int .i64 x159)) (r := []) rfl rfl ag3 (pt_px rfl (At.int (O148.atSl (j := 2) rfl j162.2.2))) ?_
                      refine W.pure (v := (.int .i64 x35)) rfl rfl (v_move (oo rfl ((fr126 13 rfl).trans ((fr59 13 rfl).trans t43)))) ?_
                      refine W.pure (v := (.bool (x159 == x35))) rfl rfl (v_int (oo rfl rfl) (oo rfl rfl) rfl) ?_
                      refine W.pure (v := (.bool (x159 == x35))) rfl rfl (v_move (oo rfl rfl)) ?_
                      refine W.splitAt (t := 64) (b := (x159 == x35)) rfl (fun g163 gv164 => ?_) (fun g163 gv164 => ?_)
                      · have h165 := pos_inv g163 h161
                        refine W.pure (v := w17) (gk rfl rfl gv164 rfl) rfl (v_move (oo rfl ((fr126 12 rfl).trans ((fr59 12 rfl).trans ((fr38 12 rfl).trans rfl))))) ?_
                        obtain ⟨x166, i167, h168⟩ := bd_inv h165
                        have j169 := idx_inv i167
                        refine W.pure (v := (padd (.pointer (some ⟨b144, 0, none⟩)) (Int.toNat 1 * 1))) (gk rfl rfl gv164 rfl) rfl (v_idxAA ar29 sz3 (oo rfl rfl) (oo rfl rfl) (O148.atVar (j := 0) rfl) j169.1 j169.2.1) ?_
                        refine W.load1 (v := (.int .i64 x166)) (r := []) (gk rfl rfl gv164 rfl) rfl ag3 (pt_px rfl (At.int (At.aidx (O148.atVar (j := 0) rfl) j169.2.2))) ?_
                        obtain ⟨x170, i171, h172⟩ := bd_inv h168
                        have j173 := idx_inv i171
                        refine W.pure (v := (selem w17 (Int.toNat x166 * 1))) (gk rfl rfl gv164 rfl) rfl (v_idx el24 sz3 (oo rfl rfl) (oo rfl rfl) (O148.slLen (j := 2) rfl) j173.1 j173.2.1) ?_
                        refine W.load1 (v := (.int .i64 x170)) (r := []) (gk rfl rfl gv164 rfl) rfl ag3 (pt_px rfl (At.int (O148.atSl (j := 2) rfl j173.2.2))) ?_
                        refine W.pure (v := (.bool (decide (x170 < 0)))) (gk rfl rfl gv164 rfl) rfl (v_int (oo rfl rfl) (oo rfl rfl) rfl) ?_
                        refine W.pure (v := (.bool (decide (x170 < 0)))) rfl rfl (v_pickT (oo rfl gv164) (oo rfl rfl)) ?_
                        refine .nil ?_
                        obtain rfl := Option.some.inj h172
                        exact ⟨decide (x170 < 0), _, rfl, O148, (GM.le.refl _), rfl⟩
                      · have h174 := neg_b g163 h161
                        refine W.skip (gk rfl rfl gv164 rfl) rfl ?_
                        refine W.skip (gk rfl rfl gv164 rfl) rfl ?_
                        refine W.skip (gk rfl rfl gv164 rfl) rfl ?_
                        refine W.skip (gk rfl rfl gv164 rfl) rfl ?_
                        refine W.skip (gk rfl rfl gv164 rfl) rfl ?_
                        refine W.skip (gk rfl rfl gv164 rfl) rfl ?_
                        refine W.pure (v := (.bool false)) rfl rfl (v_pickF (oo rfl gv164) (oo rfl rfl)) ?_
                        refine .nil ?_
                        obtain rfl := Option.some.inj h174
                        exact ⟨false, _, rfl, O148, (GM.le.refl _), rfl⟩
                    · rintro σ176 H177 fr178 ⟨x175, G179, rfl, O180, s181, t183⟩
                      have h184 := tu1_inv h154
                      refine .cond (b := x175) rfl t183 (fun g185 => ?_) (fun g185 => ?_)
                      · have h186 := pos_inv g185 h184
                        refine .region ?_
                        refine W.pure (v := w17) rfl rfl (v_move (oo rfl ((fr178 12 rfl).trans ((fr126 12 rfl).trans ((fr59 12 rfl).trans ((fr38 12 rfl).trans rfl)))))) ?_
                        obtain ⟨x187, i188, h189⟩ := bd_inv h186
                        have j190 := idx_inv i188
                        refine W.pure (v := (padd (.pointer (some ⟨b144, 0, none⟩)) (Int.toNat 1 * 1))) rfl rfl (v_idxAA ar29 sz3 (oo rfl ((fr178 18 rfl).trans rfl)) (oo rfl rfl) (O180.atVar (j := 0) rfl) j190.1 j190.2.1) ?_
                        refine W.load1 (v := (.int .i64 x187)) (r := []) rfl rfl ag3 (pt_px rfl (At.int (At.aidx (O180.atVar (j := 0) rfl) j190.2.2))) ?_
                        refine W.pure (v := (.int .i64 x35)) rfl rfl (v_move (oo rfl ((fr178 13 rfl).trans ((fr126 13 rfl).trans ((fr59 13 rfl).trans t43))))) ?_
                        refine W.pure (v := (.int .i64 (kwrap .i64 (x35 + 1)))) rfl rfl (v_int (oo rfl rfl) (oo rfl rfl) rfl) ?_
                        obtain ⟨x191, i192, h193⟩ := bd_inv h189
                        have j194 := idx_inv i192
                        refine W.pure (v := (selem w17 (Int.toNat x187 * 1))) rfl rfl (v_idx el24 sz3 (oo rfl rfl) (oo rfl rfl) (O180.slLen (j := 2) rfl) j194.1 j194.2.1) ?_
                        refine W.lo rfl rfl (Lo.storeSl0 (j := 2) (y0 := kwrap .i64 (x35 + 1)) (v := (.int .i64 (kwrap .i64 (x35 + 1)))) rfl j194.2.2  rfl sz3 rfl rfl rfl O180) ?_
                        rintro v197 H198 ⟨O195, sm196⟩
                        replace O195 : Ow G179 H198 (eVar b144 29 (rArr 2 (rI .i64)) x138 :: eVar b79 29 (rArr 2 (rI .i64)) x71 :: eSl w17 3 (rI .i64) (List.set x121 (Int.toNat x187) (kwrap .i64 (x35 + 1))) :: L) := O195
                        refine W.pure (v := (.bool true)) rfl rfl (v_assign (oo rfl rfl)) ?_
                        refine .nil ?_
                        have O199 : Ow G179 H198 (eVar b79 29 (rArr 2 (rI .i64)) x71 :: eSl w17 3 (rI .i64) (List.set x121 (Int.toNat x187) (kwrap .i64 (x35 + 1))) :: L) := O195.drop 0
                        obtain rfl := Option.some.inj h193
                        exact ⟨(List.set x121 (Int.toNat x187) (kwrap .i64 (x35 + 1))), true, _, rfl, O199, s181, rfl⟩
                      · have h200 := neg_b g185 h184
                        refine .skip ?_
                        have O201 : Ow G179 H177 (eVar b79 29 (rArr 2 (rI .i64)) x71 :: eSl w17 3 (rI .i64) x121 :: L) := O180.drop 0
                        obtain rfl := Option.some.inj h200
                        exact ⟨x121, x122, _, rfl, O201, s181, ((fr178 14 rfl).trans t131)⟩
                  · rintro σ204 H205 fr206 ⟨x202, x203, G207, rfl, O208, s209, t211⟩
                    have h212 := tu2_inv h137
                    refine .region ?_
                    refine W.pure (v := (.int .i64 (kwrap .i64 (x123 + 1)))) rfl rfl (v_int (oo rfl ((fr206 54 rfl).trans t132)) (oo rfl rfl) rfl) ?_
                    refine W.pure (v := (.int .i64 (kwrap .i64 (x123 + 1)))) rfl rfl (v_move (oo rfl rfl)) ?_
                    refine .nil ?_
                    exact ⟨k120, Nat.lt_succ_self _, ⟨x202, x203, kwrap .i64 (x123 + 1), _, h212, O208, (GM.le.trans s129 s209), t211, rfl⟩⟩
                · have h213 := neg_b g133 h130
                  refine .exit ?_
                  obtain rfl := Option.some.inj h213
                  exact ⟨x121, x122, _, rfl, O128, s129, t131⟩
              · rintro σ216 H217 fr218 ⟨x214, x215, G219, rfl, O220, s221, t223⟩
                have h224 := tu2_inv h119
                have O225 : Ow G219 H217 (eSl w17 3 (rI .i64) x214 :: L) := O220.drop 0
                obtain rfl := Option.some.inj h224
                exact ⟨x214, x215, _, rfl, O225, (GM.le.trans s92 s221), t223⟩
          · rintro σ228 H229 fr230 ⟨x226, x227, G231, rfl, O232, s233, t235⟩
            have h236 := tu2_inv h70
            refine .region ?_
            refine W.pure (v := (.int .i64 (kwrap .i64 (x56 + 1)))) rfl rfl (v_int (oo rfl ((fr230 38 rfl).trans t65)) (oo rfl rfl) rfl) ?_
            refine W.pure (v := (.int .i64 (kwrap .i64 (x56 + 1)))) rfl rfl (v_move (oo rfl rfl)) ?_
            refine .nil ?_
            exact ⟨k53, Nat.lt_succ_self _, ⟨x226, x227, kwrap .i64 (x56 + 1), _, h236, O232, (GM.le.trans s62 s233), t235, rfl⟩⟩
        · have h237 := neg_b g66 h63
          refine .exit ?_
          obtain rfl := Option.some.inj h237
          exact ⟨x54, x55, _, rfl, O61, s62, t64⟩
      · rintro σ240 H241 fr242 ⟨x238, x239, G243, rfl, O244, s245, t247⟩
        have h248 := tu2_inv h52
        refine .seq ?_
        obtain ⟨q249, h250, h251⟩ := bd_inv h248
        refine AW.midT (fun σ' H' => ∃ (y1 : Bool) (G' : GM), y1 = q249 ∧ Ow G' H' (eSl w17 3 (rI .i64) x238 :: L) ∧ GM.le G243 G' ∧ σ' 88 = .bool y1) ?_ ?_
        · refine .region ?_
          refine W.pure (v := (.bool x239)) rfl rfl (v_move (oo rfl t247)) ?_
          refine W.pure (v := (.bool (!x239))) rfl rfl (bool_not (a := x239) (oo rfl rfl)) ?_
          refine W.pure (v := (.bool (!x239))) rfl rfl (v_move (oo rfl rfl)) ?_
          refine W.splitAt (t := 82) (b := (!x239)) rfl (fun g252 gv253 => ?_) (fun g252 gv253 => ?_)
          · have h254 := pos_inv g252 h250
            refine W.pure (v := w17) (gk rfl rfl gv253 rfl) rfl (v_move (oo rfl ((fr242 12 rfl).trans ((fr38 12 rfl).trans rfl)))) ?_
            refine W.pure (v := (.int .i64 p2)) (gk rfl rfl gv253 rfl) rfl (v_move (oo rfl ((fr242 2 rfl).trans ((fr38 2 rfl).trans rfl)))) ?_
            obtain ⟨x255, i256, h257⟩ := bd_inv h254
            have j258 := idx_inv i256
            refine W.pure (v := (selem w17 (Int.toNat p2 * 1))) (gk rfl rfl gv253 rfl) rfl (v_idx el24 sz3 (oo rfl rfl) (oo rfl rfl) (O244.slLen (j := 0) rfl) j258.1 j258.2.1) ?_
            refine W.load1 (v := (.int .i64 x255)) (r := []) (gk rfl rfl gv253 rfl) rfl ag3 (pt_px rfl (At.int (O244.atSl (j := 0) rfl j258.2.2))) ?_
            refine W.pure (v := (.bool (decide (x255 < 0)))) (gk rfl rfl gv253 rfl) rfl (v_int (oo rfl rfl) (oo rfl rfl) rfl) ?_
            refine W.pure (v := (.bool (decide (x255 < 0)))) rfl rfl (v_pickT (oo rfl gv253) (oo rfl rfl)) ?_
            refine .nil ?_
            obtain rfl := Option.some.inj h257
            exact ⟨decide (x255 < 0), _, rfl, O244, (GM.le.refl _), rfl⟩
          · have h259 := neg_b g252 h250
            refine W.skip (gk rfl rfl gv253 rfl) rfl ?_
            refine W.skip (gk rfl rfl gv253 rfl) rfl ?_
            refine W.skip (gk rfl rfl gv253 rfl) rfl ?_
            refine W.skip (gk rfl rfl gv253 rfl) rfl ?_
            refine W.skip (gk rfl rfl gv253 rfl) rfl ?_
            refine W.pure (v := (.bool false)) rfl rfl (v_pickF (oo rfl gv253) (oo rfl rfl)) ?_
            refine .nil ?_
            obtain rfl := Option.some.inj h259
            exact ⟨false, _, rfl, O244, (GM.le.refl _), rfl⟩
        · rintro σ261 H262 fr263 ⟨x260, G264, rfl, O265, s266, t268⟩
          have h269 := tu1_inv h251
          refine .cond (b := x260) rfl t268 (fun g270 => ?_) (fun g270 => ?_)
          · have h271 := pos_inv g270 h269
            refine .seq ?_
            refine .region ?_
            refine W.pure (v := (.slice none 0 0)) rfl rfl (v_assign (oo rfl rfl)) ?_
            refine W.pure (v := (.bool false)) rfl rfl (v_assign (oo rfl rfl)) ?_
            refine .nil ?_
            refine .ret ?_
            have O272 := O265.nilSl 3 (rI .i64)
            have O273 : Ow G264 H262 (eSl (.slice none 0 0) 3 (rI .i64) [] :: L) := O272.drop 1
            obtain rfl := Option.some.inj h271
            have h274 := tu2_inv (outS_l h32)
            obtain rfl := Option.some.inj h274
            refine ret2R (P := Try.prog) (fn := Try.f58) (n := 140) (R := fun v H' => ∃ w0 G', Ow G' H' (eSl w0 3 (rI .i64) ([], false).1 :: L) ∧ G.le G' ∧ v = .tuple #[w0, .bool ([], false).2]) (v1 := (.slice none 0 0)) (v2 := (.bool false)) (by rfl) (rr_tmp (by rfl) (by exact rfl)) (rr_tmp (by rfl) (by exact rfl)) ?_
            exact ⟨(.slice none 0 0), _, O273, (GM.le.trans s7 (GM.le.trans s14 (GM.le.trans s41 (GM.le.trans s245 s266)))), rfl⟩
          · have h275 := neg_b g270 h269
            refine .skip ?_
            refine .region ?_
            refine W.pure (v := (.int .i64 x35)) rfl rfl (v_move (oo rfl ((fr263 13 rfl).trans ((fr242 13 rfl).trans t43)))) ?_
            refine W.pure (v := (.int .i64 (kwrap .i64 (x35 + 1)))) rfl rfl (v_int (oo rfl rfl) (oo rfl rfl) rfl) ?_
            refine W.pure (v := (.int .i64 (kwrap .i64 (x35 + 1)))) rfl rfl (v_assign (oo rfl rfl)) ?_
            refine .nil ?_
            exact ⟨k33, Nat.lt_succ_self _, ⟨x238, kwrap .i64 (x35 + 1), _, h275, O265, (GM.le.trans s41 (GM.le.trans s245 s266)), rfl⟩⟩
    · have h276 := neg_b g48 h46
      refine .exit ?_
      obtain rfl := Option.some.inj h276
      exact ⟨x34, _, rfl, O40, s41⟩
  · rintro σ278 H279 fr280 ⟨x277, G281, rfl, O282, s283⟩
    have h285 := tu1_inv (outS_r h32)
    refine .seq ?_
    refine .region ?_
    refine W.pure (v := (.slice none 0 0)) rfl rfl (v_assign (oo rfl rfl)) ?_
    refine .nil ?_
    refine .seq ?_
    obtain ⟨q286, h287, h288⟩ := bd_inv h285
    refine AW.midT (fun σ' H' => ∃ (y1 : List Int) (G' : GM), y1 = q286 ∧ Ow G' H' (eSl w17 3 (rI .i64) x277 :: eSl (σ' 19) 3 (rI .i64) y1 :: L) ∧ GM.le G281 G') ?_ ?_
    · refine .block ?_
      have O289 := O282.nilSl 3 (rI .i64)
      refine AW.loop (α := Nat) (fun k' σ' H' => ∃ (y1 : List Int) (y2 : Int) (G' : GM), g_graph_Way_l6 K p3 p1 p4 x277 k' y1 y2 = some q286 ∧ Ow G' H' (eSl (σ' 19) 3 (rI .i64) y1 :: eSl w17 3 (rI .i64) x277 :: L) ∧ GM.le G281 G' ∧ σ' 2 = .int .i64 y2) (fun k' => k') K ⟨[], p2, _, h287, O289, (GM.le.refl _), ((fr280 2 rfl).trans rfl)⟩ ?_
      rintro k290
      rintro σ293 H294 fr295 ⟨x291, x292, G296, h299, O297, s298, t300⟩
      rcases k290 with _ | k290
      · exact none_absurd h299
      rw [g_graph_Way_l6] at h299
      refine .seq ?_
      refine .seq ?_
      refine .region ?_
      refine W.pure (v := (.int .i64 x292)) rfl rfl (v_move (oo rfl t300)) ?_
      refine W.pure (v := (.int .i64 p3)) rfl rfl (v_move (oo rfl ((fr295 3 rfl).trans ((fr280 3 rfl).trans rfl)))) ?_
      refine W.pure (v := (.bool (x292 != p3))) rfl rfl (v_int (oo rfl rfl) (oo rfl rfl) rfl) ?_
      refine .nil ?_
      refine .cond (b := (x292 != p3)) rfl rfl (fun g301 => ?_) (fun g301 => ?_)
      · have h302 := pos_inv g301 h299
        refine .skip ?_
        refine .block ?_
        refine .seq ?_
        refine .region ?_
        refine W.pure (v := v1) rfl rfl (v_move (oo rfl ((fr295 1 rfl).trans ((fr280 1 rfl).trans rfl)))) ?_
        refine W.pure (v := (.int .i64 (List.length p1 : Int))) rfl rfl (len_sl (oo rfl rfl) (sl_len (RT.mono _ (GM.le.trans s7 (GM.le.trans s14 (GM.le.trans s283 s298))) hp1)) (elemT_inv el22)) ?_
        refine W.pure (v := (.int .i64 0)) rfl rfl (v_move (oo rfl rfl)) ?_
        refine .nil ?_
        obtain ⟨q303, h304, h305⟩ := bd_inv h302
        refine AW.midT (fun σ' H' => ∃ (y1 : List Int) (y2 : Int) (G' : GM), (y1, y2) = q303 ∧ Ow G' H' (eSl (σ' 19) 3 (rI .i64) y1 :: eSl w17 3 (rI .i64) x277 :: L) ∧ GM.le G296 G' ∧ σ' 2 = .int .i64 y2) ?_ ?_
        · refine .block ?_
          refine AW.loop (α := Nat) (fun k' σ' H' => ∃ (y1 : Int) (G' : GM), g_graph_Way_l8 K p1 p4 x277 x291 x292 k' y1 = some q303 ∧ Ow G' H' (eSl (σ293 19) 3 (rI .i64) x291 :: eSl w17 3 (rI .i64) x277 :: L) ∧ GM.le G296 G' ∧ σ' 94 = .int .i64 y1 ∧ σ' 2 = (.int .i64 x292) ∧ σ' 19 = (σ293 19)) (fun k' => k') K ⟨0, _, h304, O297, (GM.le.refl _), rfl, t300, rfl⟩ ?_
          rintro k306
          rintro σ308 H309 fr310 ⟨x307, G311, h314, O312, s313, t315, t316, t317⟩
          rcases k306 with _ | k306
          · exact none_absurd h314
          rw [g_graph_Way_l8] at h314
          refine .seq ?_
          refine .region ?_
          refine W.pure (v := (.bool (decide (x307 < (List.length p1 : Int))))) rfl rfl (v_int (oo rfl t315) (oo rfl ((fr310 93 rfl).trans rfl)) rfl) ?_
          refine .nil ?_
          refine .seq ?_
          refine .cond (b := decide (x307 < (List.length p1 : Int))) rfl rfl (fun g318 => ?_) (fun g318 => ?_)
          · have h319 := pos_inv g318 h314
            refine .skip ?_
            refine .seq ?_
            refine .block ?_
            refine .seq ?_
            refine .region ?_
            refine W.pure (v := (.int .i64 x307)) rfl rfl (v_move (oo rfl t315)) ?_
            obtain ⟨x320, i321, h322⟩ := bd_inv h319
            have j323 := idx_inv i321
            refine W.pure (v := (selem v1 (Int.toNat x307 * 2))) rfl rfl (v_idx el22 sz29 (oo rfl ((fr310 92 rfl).trans rfl)) (oo rfl t315) (sl_len (RT.mono _ (GM.le.trans s7 (GM.le.trans s14 (GM.le.trans s283 (GM.le.trans s298 s313)))) hp1)) j323.1 j323.2.1) ?_
            obtain ⟨c324, p325, f326⟩ := (At.le (At.le (sl_idx hp1 j323.2.2) (GM.le.trans s7 (GM.le.trans s14 (GM.le.trans s283 (GM.le.trans s298 s313)))) (GM.le.trans s7 (GM.le.trans s14 (GM.le.trans s283 (GM.le.trans s298 s313))))) (GM.le.refl _) O312.fro)
            refine W.loadA (cs := c324) rfl rfl ag29 sz29 (pt_px rfl p325) (RT.len _ f326) ?_
            refine W.lo rfl rfl (Lo.alloc (r := (rArr 2 (rI .i64))) (x0 := (List.replicate 2 0)) ze29 (by kernel_rfl) (fun G => ⟨by simp, List.replicate 2 [.int .i64 0], rfl, All2.replicate ((zI .i64) G) 2⟩) O312) ?_
            rintro v330 H331 ⟨b328, rfl, O327, sm329⟩
            refine W.pure (v := (.int .i64 x307)) rfl rfl (v_assign (oo rfl rfl)) ?_
            refine W.lo rfl rfl (Lo.storeVar (j := 0) (s := (rArr 2 (rI .i64))) (y0 := x320) (v := (.agg (List.toArray c324))) (o := 0) rfl ((Put.at (Put.self _) _ _)) rfl sz29 rfl (by omega) rfl f326 O327) ?_
            rintro v334 H335 ⟨O332, sm333⟩
            replace O332 : Ow G311 H335 (eVar b328 29 (rArr 2 (rI .i64)) x320 :: eSl (σ293 19) 3 (rI .i64) x291 :: eSl w17 3 (rI .i64) x277 :: L) := O332
            refine .nil ?_
            refine .seq ?_
            refine .region ?_
            obtain ⟨x336, i337, h338⟩ := bd_inv h322
            have j339 := idx_inv i337
            refine W.pure (v := (padd (.pointer (some ⟨b328, 0, none⟩)) (Int.toNat 0 * 1))) rfl rfl (v_idxAA ar29 sz3 (oo rfl rfl) (oo rfl rfl) (O332.atVar (j := 0) rfl) j339.1 j339.2.1) ?_
            refine W.load1 (v := (.int .i64 x336)) (r := []) rfl rfl ag3 (pt_px rfl (At.int (At.aidx (O332.atVar (j := 0) rfl) j339.2.2))) ?_
            obtain ⟨x340, i341, h342⟩ := bd_inv h338
            have j343 := idx_inv i341
            refine W.pure (v := (padd (.pointer (some ⟨b328, 0, none⟩)) (Int.toNat 1 * 1))) rfl rfl (v_idxAA ar29 sz3 (oo rfl rfl) (oo rfl rfl) (O332.atVar (j := 0) rfl) j343.1 j343.2.1) ?_
            refine W.load1 (v := (.int .i64 x340)) (r := []) rfl rfl ag3 (pt_px rfl (At.int (At.aidx (O332.atVar (j := 0) rfl) j343.2.2))) ?_
            refine W.pure (v := (.int .i64 (kwrap .i64 (x336 + x340)))) rfl rfl (v_int (oo rfl rfl) (oo rfl rfl) rfl) ?_
            refine W.pure (v := (.int .i64 x292)) rfl rfl (v_move (oo rfl t316)) ?_
            refine W.pure (v := (.int .i64 (kwrap .i64 ((kwrap .i64 (x336 + x340)) - x292)))) rfl rfl (v_int (oo rfl rfl) (oo rfl rfl) rfl) ?_
            refine W.pure (v := (.int .i64 (kwrap .i64 ((kwrap .i64 (x336 + x340)) - x292)))) rfl rfl (v_assign (oo rfl rfl)) ?_
            refine .nil ?_
            refine .seq ?_
            obtain ⟨q344, h345, h346⟩ := bd_inv h342
            refine AW.midT (fun σ' H' => ∃ (y1 : Bool) (G' : GM), y1 = q344 ∧ Ow G' H' (eVar b328 29 (rArr 2 (rI .i64)) x320 :: eSl (σ293 19) 3 (rI .i64) x291 :: eSl w17 3 (rI .i64) x277 :: L) ∧ GM.le G311 G' ∧ σ' 132 = .bool y1) ?_ ?_
            · refine .draw2 (M := [0, 0, 3, 7, 15, 31, 15, 127, 255, 511, 1023, 511, 4095, 8191, 16383, 32767, 65535, 65535, 262143, 524287, 65535, 65535, 3211263, 7405567, 15794175, 33554431, 67108863]) mixed (by kernel_rfl) (by kernel_rfl) fun H347 N351 x348 F350 => ?_
              have O349 := O332.ext x348
              refine D2.pure (v := v4) rfl rfl (v_move (oo rfl ((fr310 4 rfl).trans ((fr295 4 rfl).trans ((fr280 4 rfl).trans rfl))))) ?_
              refine D2.pure (v := (.int .i64 x307)) rfl rfl (v_move (oo rfl rfl)) ?_
              obtain ⟨x352, i353, h354⟩ := bd_inv h345
              refine D2.lo rfl rfl (Lo.callF (x0 := x307) rfl rfl (FnOk.le hp4 (GM.le.trans s7 (GM.le.trans s14 (GM.le.trans s283 (GM.le.trans s298 s313))))) (mc rfl mn) rfl i353 O349) ?_ fa_nil ?_ ?_
              · rintro v359 H360 ⟨G355, O356, s357, sm358, rfl⟩; exact fa_nil
              · rintro v359 H360 ⟨G355, O356, s357, sm358, rfl⟩; exact fa_nil
              rintro v359 H360 ⟨G355, O356, s357, sm358, rfl⟩
              refine D2.pure (v := (.bool x352)) rfl rfl (v_move (oo rfl rfl)) ?_
              refine D2.splitAt (t := 109) (b := x352) rfl (fun g361 gv362 => ?_) (fun g361 gv362 => ?_)
              · have h363 := pos_inv g361 h354
                obtain ⟨x364, i365, h366⟩ := bd_inv h363
                have j367 := idx_inv i365
                refine D2.pure (v := (padd (.pointer (some ⟨b328, 0, none⟩)) (Int.toNat 0 * 1))) (gk rfl rfl gv362 rfl) rfl (v_idxAA ar29 sz3 (oo rfl rfl) (oo rfl rfl) (O356.atVar (j := 0) rfl) j367.1 j367.2.1) ?_
                refine D2.load1' (v := (.int .i64 x364)) (r := []) (gk rfl rfl gv362 rfl) rfl ag3 (pt_px rfl (At.int (At.aidx (O356.atVar (j := 0) rfl) j367.2.2))) (faQ_bit (by decide) fa_nil) ?_
                refine D2.pure (v := (.int .i64 x292)) (gk rfl rfl gv362 rfl) rfl (v_move (oo rfl t316)) ?_
                refine D2.pure (v := (.bool (x364 == x292))) (gk rfl rfl gv362 rfl) rfl (v_int (oo rfl rfl) (oo rfl rfl) rfl) ?_
                refine D2.pure (v := (.bool (x364 == x292))) (gk rfl rfl gv362 rfl) rfl (v_move (oo rfl rfl)) ?_
                refine D2.splitAt (t := 114) (b := (x364 == x292)) rfl (fun g368 gv369 => ?_) (fun g368 gv369 => ?_)
                · have h370 := pos_inv g368 h366
                  refine D2.skip (gk rfl rfl gv369 rfl) rfl ?_
                  refine D2.skip (gk rfl rfl gv369 rfl) rfl ?_
                  refine D2.skip (gk rfl rfl gv369 rfl) rfl ?_
                  refine D2.skip (gk rfl rfl gv369 rfl) rfl ?_
                  refine D2.pure (v := (.bool true)) (gk rfl rfl gv362 rfl) rfl (v_pickT (oo rfl gv369) (oo rfl rfl)) ?_
                  refine D2.pure (v := (.bool true)) rfl rfl (v_pickT (oo rfl gv362) (oo rfl rfl)) ?_
                  refine D2.pure (v := (.bool true)) rfl rfl (v_move (oo rfl rfl)) ?_
                  refine D2.pure (v := w17) (gk rfl rfl rfl rfl) rfl (v_move (oo rfl ((fr310 12 rfl).trans ((fr295 12 rfl).trans ((fr280 12 rfl).trans rfl))))) ?_
                  refine D2.pure (v := (.int .i64 (kwrap .i64 ((kwrap .i64 (x336 + x340)) - x292)))) (gk rfl rfl rfl rfl) rfl (v_move (oo rfl rfl)) ?_
                  obtain ⟨x371, i372, h373⟩ := bd_inv h370
                  have j374 := idx_inv i372
                  refine D2.pure (v := (selem w17 (Int.toNat (kwrap .i64 ((kwrap .i64 (x336 + x340)) - x292)) * 1))) (gk rfl rfl rfl rfl) rfl (v_idx el24 sz3 (oo rfl rfl) (oo rfl rfl) (O356.slLen (j := 2) rfl) j374.1 j374.2.1) ?_
                  refine D2.load1' (v := (.int .i64 x371)) (r := []) (gk rfl rfl rfl rfl) rfl ag3 (pt_px rfl (At.int (O356.atSl (j := 2) rfl j374.2.2))) (faQ_bit (by decide) fa_nil) ?_
                  refine D2.pure (v := w17) (gk rfl rfl rfl rfl) rfl (v_move (oo rfl ((fr310 12 rfl).trans ((fr295 12 rfl).trans ((fr280 12 rfl).trans rfl))))) ?_
                  refine D2.pure (v := (.int .i64 x292)) (gk rfl rfl rfl rfl) rfl (v_move (oo rfl t316)) ?_
                  obtain ⟨x375, i376, h377⟩ := bd_inv h373
                  have j378 := idx_inv i376
                  refine D2.pure (v := (selem w17 (Int.toNat x292 * 1))) (gk rfl rfl rfl rfl) rfl (v_idx el24 sz3 (oo rfl rfl) (oo rfl rfl) (O356.slLen (j := 2) rfl) j378.1 j378.2.1) ?_
                  refine D2.load1' (v := (.int .i64 x375)) (r := []) (gk rfl rfl rfl rfl) rfl ag3 (pt_px rfl (At.int (O356.atSl (j := 2) rfl j378.2.2))) (faQ_bit (by decide) fa_nil) ?_
                  refine D2.pure (v := (.int .i64 (kwrap .i64 (x375 - 1)))) (gk rfl rfl rfl rfl) rfl (v_int (oo rfl rfl) (oo rfl rfl) rfl) ?_
                  refine D2.pure (v := (.bool (x371 == (kwrap .i64 (x375 - 1))))) (gk rfl rfl rfl rfl) rfl (v_int (oo rfl rfl) (oo rfl rfl) rfl) ?_
                  refine D2.pure (v := (.bool (x371 == (kwrap .i64 (x375 - 1))))) rfl rfl (v_pickT (oo rfl rfl) (oo rfl rfl)) ?_
                  refine .nil ?_
                  obtain rfl := Option.some.inj h377
                  exact ⟨(x371 == (kwrap .i64 (x375 - 1))), _, rfl, O356, s357, rfl⟩
                · have h379 := neg_b g368 h366
                  obtain ⟨x380, i381, h382⟩ := bd_inv h379
                  have j383 := idx_inv i381
                  refine D2.pure (v := (padd (.pointer (some ⟨b328, 0, none⟩)) (Int.toNat 1 * 1))) (gk rfl rfl gv369 rfl) rfl (v_idxAA ar29 sz3 (oo rfl rfl) (oo rfl rfl) (O356.atVar (j := 0) rfl) j383.1 j383.2.1) ?_
                  refine D2.load1' (v := (.int .i64 x380)) (r := []) (gk rfl rfl gv369 rfl) rfl ag3 (pt_px rfl (At.int (At.aidx (O356.atVar (j := 0) rfl) j383.2.2))) (faQ_bit (by decide) fa_nil) ?_
                  refine D2.pure (v := (.int .i64 x292)) (gk rfl rfl gv369 rfl) rfl (v_move (oo rfl t316)) ?_
                  refine D2.pure (v := (.bool (x380 == x292))) (gk rfl rfl gv369 rfl) rfl (v_int (oo rfl rfl) (oo rfl rfl) rfl) ?_
                  refine D2.pure (v := (.bool (x380 == x292))) (gk rfl rfl gv362 rfl) rfl (v_pickF (oo rfl gv369) (oo rfl rfl)) ?_
                  refine D2.pure (v := (.bool (x380 == x292))) rfl rfl (v_pickT (oo rfl gv362) (oo rfl rfl)) ?_
                  refine D2.pure (v := (.bool (x380 == x292))) rfl rfl (v_move (oo rfl rfl)) ?_
                  refine D2.splitAt (t := 121) (b := (x380 == x292)) rfl (fun g384 gv385 => ?_) (fun g384 gv385 => ?_)
                  · have h386 := pos_inv g384 h382
                    refine D2.pure (v := w17) (gk rfl rfl gv385 rfl) rfl (v_move (oo rfl ((fr310 12 rfl).trans ((fr295 12 rfl).trans ((fr280 12 rfl).trans rfl))))) ?_
                    refine D2.pure (v := (.int .i64 (kwrap .i64 ((kwrap .i64 (x336 + x340)) - x292)))) (gk rfl rfl gv385 rfl) rfl (v_move (oo rfl rfl)) ?_
                    obtain ⟨x387, i388, h389⟩ := bd_inv h386
                    have j390 := idx_inv i388
                    refine D2.pure (v := (selem w17 (Int.toNat (kwrap .i64 ((kwrap .i64 (x336 + x340)) - x292)) * 1))) (gk rfl rfl gv385 rfl) rfl (v_idx el24 sz3 (oo rfl rfl) (oo rfl rfl) (O356.slLen (j := 2) rfl) j390.1 j390.2.1) ?_
                    refine D2.load1' (v := (.int .i64 x387)) (r := []) (gk rfl rfl gv385 rfl) rfl ag3 (pt_px rfl (At.int (O356.atSl (j := 2) rfl j390.2.2))) (faQ_bit (by decide) fa_nil) ?_
                    refine D2.pure (v := w17) (gk rfl rfl gv385 rfl) rfl (v_move (oo rfl ((fr310 12 rfl).trans ((fr295 12 rfl).trans ((fr280 12 rfl).trans rfl))))) ?_
                    refine D2.pure (v := (.int .i64 x292)) (gk rfl rfl gv385 rfl) rfl (v_move (oo rfl t316)) ?_
                    obtain ⟨x391, i392, h393⟩ := bd_inv h389
                    have j394 := idx_inv i392
                    refine D2.pure (v := (selem w17 (Int.toNat x292 * 1))) (gk rfl rfl gv385 rfl) rfl (v_idx el24 sz3 (oo rfl rfl) (oo rfl rfl) (O356.slLen (j := 2) rfl) j394.1 j394.2.1) ?_
                    refine D2.load1' (v := (.int .i64 x391)) (r := []) (gk rfl rfl gv385 rfl) rfl ag3 (pt_px rfl (At.int (O356.atSl (j := 2) rfl j394.2.2))) (faQ_bit (by decide) fa_nil) ?_
                    refine D2.pure (v := (.int .i64 (kwrap .i64 (x391 - 1)))) (gk rfl rfl gv385 rfl) rfl (v_int (oo rfl rfl) (oo rfl rfl) rfl) ?_
                    refine D2.pure (v := (.bool (x387 == (kwrap .i64 (x391 - 1))))) (gk rfl rfl gv385 rfl) rfl (v_int (oo rfl rfl) (oo rfl rfl) rfl) ?_
                    refine D2.pure (v := (.bool (x387 == (kwrap .i64 (x391 - 1))))) rfl rfl (v_pickT (oo rfl gv385) (oo rfl rfl)) ?_
                    refine .nil ?_
                    obtain rfl := Option.some.inj h393
                    exact ⟨(x387 == (kwrap .i64 (x391 - 1))), _, rfl, O356, s357, rfl⟩
                  · have h395 := neg_b g384 h382
                    refine D2.skip (gk rfl rfl gv385 rfl) rfl ?_
                    refine D2.skip (gk rfl rfl gv385 rfl) rfl ?_
                    refine D2.skip (gk rfl rfl gv385 rfl) rfl ?_
                    refine D2.skip (gk rfl rfl gv385 rfl) rfl ?_
                    refine D2.skip (gk rfl rfl gv385 rfl) rfl ?_
                    refine D2.skip (gk rfl rfl gv385 rfl) rfl ?_
                    refine D2.skip (gk rfl rfl gv385 rfl) rfl ?_
                    refine D2.skip (gk rfl rfl gv385 rfl) rfl ?_
                    refine D2.skip (gk rfl rfl gv385 rfl) rfl ?_
                    refine D2.skip (gk rfl rfl gv385 rfl) rfl ?_
                    refine D2.pure (v := (.bool false)) rfl rfl (v_pickF (oo rfl gv385) (oo rfl rfl)) ?_
                    refine .nil ?_
                    obtain rfl := Option.some.inj h395
                    exact ⟨false, _, rfl, O356, s357, rfl⟩
              · have h396 := neg_b g361 h354
                refine D2.skip (gk rfl rfl gv362 rfl) rfl ?_
                refine D2.skip (gk rfl rfl gv362 rfl) rfl ?_
                refine D2.skip (gk rfl rfl gv362 rfl) rfl ?_
                refine D2.skip (gk rfl rfl gv362 rfl) rfl ?_
                refine D2.skip (gk rfl rfl gv362 rfl) rfl ?_
                refine D2.skipU rfl rfl rfl rfl ?_
                refine D2.skipU rfl rfl rfl rfl ?_
                refine D2.skipU rfl rfl rfl rfl ?_
                refine D2.skipU rfl rfl rfl rfl ?_
                refine D2.skip (gk rfl rfl gv362 rfl) rfl ?_
                refine D2.pure (v := (.bool false)) rfl rfl (v_pickF (oo rfl gv362) (oo rfl rfl)) ?_
                refine D2.pure (v := (.bool false)) rfl rfl (v_move (oo rfl rfl)) ?_
                refine D2.skip (gk rfl rfl rfl rfl) rfl ?_
                refine D2.skip (gk rfl rfl rfl rfl) rfl ?_
                refine D2.skip (gk rfl rfl rfl rfl) rfl ?_
                refine D2.skip (gk rfl rfl rfl rfl) rfl ?_
                refine D2.skip (gk rfl rfl rfl rfl) rfl ?_
                refine D2.skip (gk rfl rfl rfl rfl) rfl ?_
                refine D2.skip (gk rfl rfl rfl rfl) rfl ?_
                refine D2.skip (gk rfl rfl rfl rfl) rfl ?_
                refine D2.skip (gk rfl rfl rfl rfl) rfl ?_
                refine D2.skip (gk rfl rfl rfl rfl) rfl ?_
                refine D2.pure (v := (.bool false)) rfl rfl (v_pickF (oo rfl rfl) (oo rfl rfl)) ?_
                refine .nil ?_
                obtain rfl := Option.some.inj h396
                exact ⟨false, _, rfl, O356, s357, rfl⟩
            · rintro σ398 H399 fr400 ⟨x397, G401, rfl, O402, s403, t405⟩
              have h406 := tu1_inv h346
              refine .cond (b := x397) rfl t405 (fun g407 => ?_) (fun g407 => ?_)
              · have h408 := pos_inv g407 h406
                refine .seq ?_
                refine .region ?_
                refine W.pure (v := (σ293 19)) rfl rfl (v_move (oo rfl ((fr400 19 rfl).trans t317))) ?_
                refine W.pure (v := (.int .i64 x307)) rfl rfl (v_move (oo rfl ((fr400 20 rfl).trans rfl))) ?_
                refine W.lo rfl rfl (Lo.buildSlice (r := (rI .i64)) (vs := [(.int .i64 x307)]) (xs := [x307]) el24 ze3 sz3 (by kernel_rfl) rfl (qc rfl qn) rfl (.cons rfl .nil) O402) ?_
                rintro v411 H412 ⟨O409, sm410⟩
                obtain ⟨es414, e415, e416⟩ := src_own (j := 0) rfl O409
                obtain ⟨g417, h418⟩ := gd_inv h408
                refine W.lo rfl rfl (Lo.append (j := 2) (v := (σ293 19)) rfl rfl el24 ni24 ze3 sz3 by3 (by decide) (by decide) rfl e415 e416 g417 O409) ?_
                rintro v420 H421 ⟨O413, sm419⟩
                replace O413 : Ow G401 H421 (eSl v411 3 (rI .i64) [x307] :: eVar b328 29 (rArr 2 (rI .i64)) x320 :: eSl v420 3 (rI .i64) (x291 ++ [x307]) :: eSl w17 3 (rI .i64) x277 :: L) := O413
                refine W.pure (v := v420) rfl rfl (v_assign (oo rfl rfl)) ?_
                refine .nil ?_
                refine .seq ?_
                refine .region ?_
                refine W.pure (v := (.int .i64 (kwrap .i64 ((kwrap .i64 (x336 + x340)) - x292)))) rfl rfl (v_move (oo rfl ((fr400 22 rfl).trans rfl))) ?_
                refine W.pure (v := (.int .i64 (kwrap .i64 ((kwrap .i64 (x336 + x340)) - x292)))) rfl rfl (v_assign (oo rfl rfl)) ?_
                refine .nil ?_
                refine .exit ?_
                have O422 : Ow G401 H421 (eVar b328 29 (rArr 2 (rI .i64)) x320 :: eSl v420 3 (rI .i64) (x291 ++ [x307]) :: eSl w17 3 (rI .i64) x277 :: L) := O413.drop 0
                have O423 : Ow G401 H421 (eSl v420 3 (rI .i64) (x291 ++ [x307]) :: eSl w17 3 (rI .i64) x277 :: L) := O422.drop 0
                obtain rfl := Option.some.inj h418
                exact ⟨(x291 ++ [x307]), kwrap .i64 ((kwrap .i64 (x336 + x340)) - x292), _, rfl, O423, (GM.le.trans s313 s403), rfl⟩
              · have h424 := neg_b g407 h406
                refine .skip ?_
                refine .region ?_
                refine W.pure (v := (.int .i64 (kwrap .i64 (x307 + 1)))) rfl rfl (v_int (oo rfl ((fr400 94 rfl).trans t315)) (oo rfl rfl) rfl) ?_
                refine W.pure (v := (.int .i64 (kwrap .i64 (x307 + 1)))) rfl rfl (v_move (oo rfl rfl)) ?_
                refine .nil ?_
                have O425 : Ow G401 H399 (eSl (σ293 19) 3 (rI .i64) x291 :: eSl w17 3 (rI .i64) x277 :: L) := O402.drop 0
                exact ⟨k306, Nat.lt_succ_self _, ⟨kwrap .i64 (x307 + 1), _, h424, O425, (GM.le.trans s313 s403), rfl, ((fr400 2 rfl).trans t316), ((fr400 19 rfl).trans t317)⟩⟩
          · have h426 := neg_b g318 h314
            refine .exit ?_
            obtain rfl := Option.some.inj h426
            exact ⟨x291, x292, _, rfl, (Ow.reval (j := 0) O312 rfl t317), s313, t316⟩
        · rintro σ429 H430 fr431 ⟨x427, x428, G432, rfl, O433, s434, t436⟩
          have h437 := tu2_inv h305
          exact ⟨k290, Nat.lt_succ_self _, ⟨x427, x428, _, h437, O433, (GM.le.trans s298 s434), t436⟩⟩
      · have h438 := neg_b g301 h299
        refine .exit ?_
        have O439 : Ow G296 H294 (eSl (σ293 19) 3 (rI .i64) x291 :: eSl w17 3 (rI .i64) x277 :: L) := O297.front (j := 0) rfl
        have O440 : Ow G296 H294 (eSl w17 3 (rI .i64) x277 :: eSl (σ293 19) 3 (rI .i64) x291 :: L) := O439.front (j := 1) rfl
        obtain rfl := Option.some.inj h438
        exact ⟨x291, _, rfl, O440, s298⟩
    · rintro σ442 H443 fr444 ⟨x441, G445, rfl, O446, s447⟩
      have h449 := tu1_inv h288
      refine .seq ?_
      refine .region ?_
      refine W.pure (v := (σ442 19)) rfl rfl (v_move (oo rfl rfl)) ?_
      refine W.pure (v := (σ442 19)) rfl rfl (v_assign (oo rfl rfl)) ?_
      refine W.pure (v := (.bool true)) rfl rfl (v_assign (oo rfl rfl)) ?_
      refine .nil ?_
      refine .ret ?_
      have O450 : Ow G445 H443 (eSl (σ442 19) 3 (rI .i64) x441 :: L) := O446.drop 0
      obtain rfl := Option.some.inj h449
      refine ret2R (P := Try.prog) (fn := Try.f58) (n := 140) (R := fun v H' => ∃ w0 G', Ow G' H' (eSl w0 3 (rI .i64) (x441, true).1 :: L) ∧ G.le G' ∧ v = .tuple #[w0, .bool (x441, true).2]) (v1 := (σ442 19)) (v2 := (.bool true)) (by rfl) (rr_tmp (by rfl) (by exact rfl)) (rr_tmp (by rfl) (by exact rfl)) ?_
      exact ⟨(σ442 19), _, O450, (GM.le.trans s7 (GM.le.trans s14 (GM.le.trans s283 s447))), rfl⟩
def g_graph_all (K : Nat) (p0 : Int) : Option Bool := some true
set_option maxHeartbeats 4000000 in
theorem g_graph_all_ok (K : Nat) {G : GM} {H : AH} {L : List Pc} (p0 : Int) (O : Ow G H (L)) (r : Bool) (h : g_graph_all K p0 = some r) :
    CR Try.prog 56 [(.int .i64 p0)] G H (L) (fun v G' _ => v = .bool r) := by
  unfold g_graph_all at h
  refine CR.of (calls_of_AW (n := 3) (fn := Try.f56) (R := fun v H' => ∃ G', Ow G' H' (L) ∧ G.le G' ∧ v = .bool r) (by kernel_rfl) rfl rfl ?_)
  refine .seq ?_
  refine .region ?_
  refine W.pure (v := (.bool false)) rfl rfl (v_assign (oo rfl rfl)) ?_
  refine .nil ?_
  refine .seq ?_
  refine .region ?_
  refine W.pure (v := (.bool true)) rfl rfl (v_assign (oo rfl rfl)) ?_
  refine .nil ?_
  refine .ret ?_
  obtain rfl := Option.some.inj h
  refine ret1R (P := Try.prog) (fn := Try.f56) (n := 3) (R := fun v H' => ∃ G', Ow G' H' (L) ∧ G.le G' ∧ v = .bool true) (v1 := (.bool true)) (by rfl) (rr_tmp (by rfl) (by exact rfl)) ?_
  exact ⟨_, O, (GM.le.refl _), rfl⟩
def g_graph_Path (K : Nat) (p0 : Int) (p1 : List (List Int)) (p2 : Int) (p3 : Int) : Option (List Int × Int) := ((g_graph_Check K p0 p1).bind fun x1 => (if (x1 != 0) = true then some ([], x1) else (Option.bind ((if (decide (p2 < 0)) = true then some true else (if (decide (p2 ≥ p0)) = true then some true else (if (decide (p3 < 0)) = true then some true else some (decide (p3 ≥ p0)))))) (tu1 fun x31 => (if x31 = true then some ([], 4) else ((g_graph_Way K p0 p1 p2 p3 (fun x => g_graph_all K x)).bind fun x45 => (if (!x45.2) = true then some ([], 8) else some (x45.1, 0))))))))
set_option maxHeartbeats 4000000 in
theorem g_graph_Path_ok (K : Nat) {G : GM} {H : AH} {L : List Pc} (p0 : Int) (v1 : Value) (p1 : List (List Int)) (hp1 : (rSl (rArr 2 (rI .i64))).rep G [v1] p1) (p2 : Int) (p3 : Int) (O : Ow G H (L)) (r : List Int × Int) (h : g_graph_Path K p0 p1 p2 p3 = some r) :
    CRF Try.prog 19 [(.int .i64 p0), v1, (.int .i64 p2), (.int .i64 p3)] G H (fun w0 => (eSl w0 3 (rI .i64) r.1 :: L)) (fun w0 v G' => v = .tuple #[w0, .int .i64 r.2]) := by
  unfold g_graph_Path at h
  refine CRF.of (calls_of_AW (n := 46) (fn := Try.f19) (R := fun v H' => ∃ w0 G', Ow G' H' (eSl w0 3 (rI .i64) r.1 :: L) ∧ G.le G' ∧ v = .tuple #[w0, .int .i64 r.2]) (by kernel_rfl) rfl rfl ?_)
  refine .seq ?_
  refine .region ?_
  refine W.pure (v := (.slice none 0 0)) rfl rfl (v_assign (oo rfl rfl)) ?_
  refine W.pure (v := (.int .i64 0)) rfl rfl (v_assign (oo rfl rfl)) ?_
  refine .nil ?_
  refine .seq ?_
  refine .seq ?_
  refine .region ?_
  refine W.pure (v := (.int .i64 p0)) rfl rfl (v_move (oo rfl rfl)) ?_
  refine W.pure (v := v1) rfl rfl (v_move (oo rfl rfl)) ?_
  obtain ⟨x1, i2, h3⟩ := bd_inv h
  refine W.lo rfl rfl (Lo.callP (ps := []) (ps' := []) rfl (fn := Try.f13) (by kernel_rfl) rfl (mc rfl (mc rfl mn)) O (fun L' O' => g_graph_Check_ok K p0 v1 p1 hp1 O' _ i2)) ?_
  rintro v10 H11 ⟨G4, O5, s6, sm9, rfl⟩
  replace O5 : Ow G4 H11 (L) := O5
  refine W.pure (v := (.int .i64 x1)) rfl rfl (v_assign (oo rfl rfl)) ?_
  refine .nil ?_
  refine .seq ?_
  refine .region ?_
  refine W.pure (v := (.int .i64 x1)) rfl rfl (v_move (oo rfl rfl)) ?_
  refine W.pure (v := (.bool (x1 != 0))) rfl rfl (v_int (oo rfl rfl) (oo rfl rfl) rfl) ?_
  refine .nil ?_
  refine .cond (b := (x1 != 0)) rfl rfl (fun g12 => ?_) (fun g12 => ?_)
  · have h13 := pos_inv g12 h3
    refine .seq ?_
    refine .region ?_
    refine W.pure (v := (.int .i64 x1)) rfl rfl (v_move (oo rfl rfl)) ?_
    refine W.pure (v := (.slice none 0 0)) rfl rfl (v_assign (oo rfl rfl)) ?_
    refine W.pure (v := (.int .i64 x1)) rfl rfl (v_assign (oo rfl rfl)) ?_
    refine .nil ?_
    refine .ret ?_
    have O14 := O5.nilSl 3 (rI .i64)
    obtain rfl := Option.some.inj h13
    refine ret2R (P := Try.prog) (fn := Try.f19) (n := 46) (R := fun v H' => ∃ w0 G', Ow G' H' (eSl w0 3 (rI .i64) ([], x1).1 :: L) ∧ G.le G' ∧ v = .tuple #[w0, .int .i64 ([], x1).2]) (v1 := (.slice none 0 0)) (v2 := (.int .i64 x1)) (by rfl) (rr_tmp (by rfl) (by exact rfl)) (rr_tmp (by rfl) (by exact rfl)) ?_
    exact ⟨(.slice none 0 0), _, O14, s6, rfl⟩
  · have h15 := neg_b g12 h3
    refine .skip ?_
    refine .seq ?_
    refine .seq ?_
    obtain ⟨q16, h17, h18⟩ := bd_inv h15
    refine AW.midT (fun σ' H' => ∃ (y1 : Bool) (G' : GM), y1 = q16 ∧ Ow G' H' (L) ∧ GM.le G4 G' ∧ σ' 34 = .bool y1) ?_ ?_
    · refine .region ?_
      refine W.pure (v := (.int .i64 p2)) rfl rfl (v_move (oo rfl rfl)) ?_
      refine W.pure (v := (.bool (decide (p2 < 0)))) rfl rfl (v_int (oo rfl rfl) (oo rfl rfl) rfl) ?_
      refine W.pure (v := (.bool (decide (p2 < 0)))) rfl rfl (v_move (oo rfl rfl)) ?_
      refine W.splitAt (t := 21) (b := decide (p2 < 0)) rfl (fun g19 gv20 => ?_) (fun g19 gv20 => ?_)
      · have h21 := pos_inv g19 h17
        refine W.skip (gk rfl rfl gv20 rfl) rfl ?_
        refine W.skip (gk rfl rfl gv20 rfl) rfl ?_
        refine W.skip (gk rfl rfl gv20 rfl) rfl ?_
        refine W.pure (v := (.bool true)) rfl rfl (v_pickT (oo rfl gv20) (oo rfl rfl)) ?_
        refine W.pure (v := (.bool true)) rfl rfl (v_move (oo rfl rfl)) ?_
        refine W.skip (gk rfl rfl rfl rfl) rfl ?_
        refine W.skip (gk rfl rfl rfl rfl) rfl ?_
        refine W.pure (v := (.bool true)) rfl rfl (v_pickT (oo rfl rfl) (oo rfl rfl)) ?_
        refine W.pure (v := (.bool true)) rfl rfl (v_move (oo rfl rfl)) ?_
        refine W.skip (gk rfl rfl rfl rfl) rfl ?_
        refine W.skip (gk rfl rfl rfl rfl) rfl ?_
        refine W.skip (gk rfl rfl rfl rfl) rfl ?_
        refine W.pure (v := (.bool true)) rfl rfl (v_pickT (oo rfl rfl) (oo rfl rfl)) ?_
        refine .nil ?_
        obtain rfl := Option.some.inj h21
        exact ⟨true, _, rfl, O5, (GM.le.refl _), rfl⟩
      · have h22 := neg_b g19 h17
        refine W.pure (v := (.int .i64 p2)) (gk rfl rfl gv20 rfl) rfl (v_move (oo rfl rfl)) ?_
        refine W.pure (v := (.int .i64 p0)) (gk rfl rfl gv20 rfl) rfl (v_move (oo rfl rfl)) ?_
        refine W.pure (v := (.bool (decide (p2 ≥ p0)))) (gk rfl rfl gv20 rfl) rfl (v_int (oo rfl rfl) (oo rfl rfl) rfl) ?_
        refine W.pure (v := (.bool (decide (p2 ≥ p0)))) rfl rfl (v_pickF (oo rfl gv20) (oo rfl rfl)) ?_
        refine W.pure (v := (.bool (decide (p2 ≥ p0)))) rfl rfl (v_move (oo rfl rfl)) ?_
        refine W.splitAt (t := 26) (b := decide (p2 ≥ p0)) rfl (fun g23 gv24 => ?_) (fun g23 gv24 => ?_)
        · have h25 := pos_inv g23 h22
          refine W.skip (gk rfl rfl gv24 rfl) rfl ?_
          refine W.skip (gk rfl rfl gv24 rfl) rfl ?_
          refine W.pure (v := (.bool true)) rfl rfl (v_pickT (oo rfl gv24) (oo rfl rfl)) ?_
          refine W.pure (v := (.bool true)) rfl rfl (v_move (oo rfl rfl)) ?_
          refine W.skip (gk rfl rfl rfl rfl) rfl ?_
          refine W.skip (gk rfl rfl rfl rfl) rfl ?_
          refine W.skip (gk rfl rfl rfl rfl) rfl ?_
          refine W.pure (v := (.bool true)) rfl rfl (v_pickT (oo rfl rfl) (oo rfl rfl)) ?_
          refine .nil ?_
          obtain rfl := Option.some.inj h25
          exact ⟨true, _, rfl, O5, (GM.le.refl _), rfl⟩
        · have h26 := neg_b g23 h22
          refine W.pure (v := (.int .i64 p3)) (gk rfl rfl gv24 rfl) rfl (v_move (oo rfl rfl)) ?_
          refine W.pure (v := (.bool (decide (p3 < 0)))) (gk rfl rfl gv24 rfl) rfl (v_int (oo rfl rfl) (oo rfl rfl) rfl) ?_
          refine W.pure (v := (.bool (decide (p3 < 0)))) rfl rfl (v_pickF (oo rfl gv24) (oo rfl rfl)) ?_
          refine W.pure (v := (.bool (decide (p3 < 0)))) rfl rfl (v_move (oo rfl rfl)) ?_
          refine W.splitAt (t := 30) (b := decide (p3 < 0)) rfl (fun g27 gv28 => ?_) (fun g27 gv28 => ?_)
          · have h29 := pos_inv g27 h26
            refine W.skip (gk rfl rfl gv28 rfl) rfl ?_
            refine W.skip (gk rfl rfl gv28 rfl) rfl ?_
            refine W.skip (gk rfl rfl gv28 rfl) rfl ?_
            refine W.pure (v := (.bool true)) rfl rfl (v_pickT (oo rfl gv28) (oo rfl rfl)) ?_
            refine .nil ?_
            obtain rfl := Option.some.inj h29
            exact ⟨true, _, rfl, O5, (GM.le.refl _), rfl⟩
          · have h30 := neg_b g27 h26
            refine W.pure (v := (.int .i64 p3)) (gk rfl rfl gv28 rfl) rfl (v_move (oo rfl rfl)) ?_
            refine W.pure (v := (.int .i64 p0)) (gk rfl rfl gv28 rfl) rfl (v_move (oo rfl rfl)) ?_
            refine W.pure (v := (.bool (decide (p3 ≥ p0)))) (gk rfl rfl gv28 rfl) rfl (v_int (oo rfl rfl) (oo rfl rfl) rfl) ?_
            refine W.pure (v := (.bool (decide (p3 ≥ p0)))) rfl rfl (v_pickF (oo rfl gv28) (oo rfl rfl)) ?_
            refine .nil ?_
            obtain rfl := Option.some.inj h30
            exact ⟨decide (p3 ≥ p0), _, rfl, O5, (GM.le.refl _), rfl⟩
    · rintro σ32 H33 fr34 ⟨x31, G35, rfl, O36, s37, t39⟩
      have h40 := tu1_inv h18
      refine .cond (b := x31) rfl t39 (fun g41 => ?_) (fun g41 => ?_)
      · have h42 := pos_inv g41 h40
        refine .seq ?_
        refine .region ?_
        refine W.pure (v := (.slice none 0 0)) rfl rfl (v_assign (oo rfl rfl)) ?_
        refine W.pure (v := (.int .i64 4)) rfl rfl (v_assign (oo rfl rfl)) ?_
        refine .nil ?_
        refine .ret ?_
        have O43 := O36.nilSl 3 (rI .i64)
        obtain rfl := Option.some.inj h42
        refine ret2R (P := Try.prog) (fn := Try.f19) (n := 46) (R := fun v H' => ∃ w0 G', Ow G' H' (eSl w0 3 (rI .i64) ([], 4).1 :: L) ∧ G.le G' ∧ v = .tuple #[w0, .int .i64 ([], 4).2]) (v1 := (.slice none 0 0)) (v2 := (.int .i64 4)) (by rfl) (rr_tmp (by rfl) (by exact rfl)) (rr_tmp (by rfl) (by exact rfl)) ?_
        exact ⟨(.slice none 0 0), _, O43, (GM.le.trans s6 s37), rfl⟩
      · have h44 := neg_b g41 h40
        refine .skip ?_
        refine .seq ?_
        refine .region ?_
        refine W.pure (v := (.int .i64 p0)) rfl rfl (v_move (oo rfl ((fr34 0 rfl).trans rfl))) ?_
        refine W.pure (v := v1) rfl rfl (v_move (oo rfl ((fr34 1 rfl).trans rfl))) ?_
        refine W.pure (v := (.int .i64 p2)) rfl rfl (v_move (oo rfl ((fr34 2 rfl).trans rfl))) ?_
        refine W.pure (v := (.int .i64 p3)) rfl rfl (v_move (oo rfl ((fr34 3 rfl).trans rfl))) ?_
        obtain ⟨x45, i46, h47⟩ := bd_inv h44
        refine W.lo rfl rfl (Lo.callPF (ps := []) (pw := fun w => [eSl w 3 (rI .i64) x45.1]) rfl (fn := Try.f58) (by kernel_rfl) rfl (mc rfl (mc rfl (mc rfl (mc rfl (mc rfl mn))))) O36 (fun L' O' => g_graph_Way_ok K p0 v1 p1 (RT.mono _ (GM.le.trans s6 s37) hp1) p2 p3 (.func (.func 56) #[] #[]) (fun x => g_graph_all K x) ⟨56, _, _, Try.f56, rfl, by kernel_rfl, rfl, fun G1 H L vs x r hG O hA hF => by obtain rfl := hA; exact g_graph_all_ok K x O _ hF⟩ O' _ i46)) ?_
        rintro v56 H57 ⟨w53, G48, O49, s50, sm55, rfl⟩
        replace O49 : Ow G48 H57 (eSl w53 3 (rI .i64) x45.1 :: L) := O49
        refine W.pure (v := (.tuple #[w53, (.bool x45.2)])) rfl rfl (v_move (oo rfl rfl)) ?_
        refine W.pure (v := w53) rfl rfl (v_extract (oo rfl rfl) rfl) ?_
        refine W.pure (v := (.bool x45.2)) rfl rfl (v_extract (oo rfl rfl) rfl) ?_
        refine W.pure (v := w53) rfl rfl (v_assign (oo rfl rfl)) ?_
        refine W.pure (v := (.bool x45.2)) rfl rfl (v_assign (oo rfl rfl)) ?_
        refine .nil ?_
        refine .seq ?_
        refine .seq ?_
        refine .region ?_
        refine W.pure (v := (.bool x45.2)) rfl rfl (v_move (oo rfl rfl)) ?_
        refine W.pure (v := (.bool (!x45.2))) rfl rfl (bool_not (a := x45.2) (oo rfl rfl)) ?_
        refine .nil ?_
        refine .cond (b := (!x45.2)) rfl rfl (fun g58 => ?_) (fun g58 => ?_)
        · have h59 := pos_inv g58 h47
          refine .seq ?_
          refine .region ?_
          refine W.pure (v := (.slice none 0 0)) rfl rfl (v_assign (oo rfl rfl)) ?_
          refine W.pure (v := (.int .i64 8)) rfl rfl (v_assign (oo rfl rfl)) ?_
          refine .nil ?_
          refine .ret ?_
          have O60 := O49.nilSl 3 (rI .i64)
          have O61 : Ow G48 H57 (eSl (.slice none 0 0) 3 (rI .i64) [] :: L) := O60.drop 1
          obtain rfl := Option.some.inj h59
          refine ret2R (P := Try.prog) (fn := Try.f19) (n := 46) (R := fun v H' => ∃ w0 G', Ow G' H' (eSl w0 3 (rI .i64) ([], 8).1 :: L) ∧ G.le G' ∧ v = .tuple #[w0, .int .i64 ([], 8).2]) (v1 := (.slice none 0 0)) (v2 := (.int .i64 8)) (by rfl) (rr_tmp (by rfl) (by exact rfl)) (rr_tmp (by rfl) (by exact rfl)) ?_
          exact ⟨(.slice none 0 0), _, O61, (GM.le.trans s6 (GM.le.trans s37 s50)), rfl⟩
        · have h62 := neg_b g58 h47
          refine .skip ?_
          refine .seq ?_
          refine .region ?_
          refine W.pure (v := w53) rfl rfl (v_move (oo rfl rfl)) ?_
          refine W.pure (v := w53) rfl rfl (v_assign (oo rfl rfl)) ?_
          refine W.pure (v := (.int .i64 0)) rfl rfl (v_assign (oo rfl rfl)) ?_
          refine .nil ?_
          refine .ret ?_
          obtain rfl := Option.some.inj h62
          refine ret2R (P := Try.prog) (fn := Try.f19) (n := 46) (R := fun v H' => ∃ w0 G', Ow G' H' (eSl w0 3 (rI .i64) (x45.1, 0).1 :: L) ∧ G.le G' ∧ v = .tuple #[w0, .int .i64 (x45.1, 0).2]) (v1 := w53) (v2 := (.int .i64 0)) (by rfl) (rr_tmp (by rfl) (by exact rfl)) (rr_tmp (by rfl) (by exact rfl)) ?_
          exact ⟨w53, _, O49, (GM.le.trans s6 (GM.le.trans s37 s50)), rfl⟩
def g_R_GraphError_l2 (K : Nat) (p0 : Int) (x40 : List Int) : Nat → Int → Option (Int ⊕ Unit)
  | 0, _ => none
  | k + 1, x63 => (if (decide (x63 < 2)) = true then ((idx x40 x63).bind fun x74 => (Option.bind ((if (decide (x74 < 0)) = true then some true else some (decide (x74 ≥ p0)))) (tu1 fun x85 => (if x85 = true then some (.inl 4) else g_R_GraphError_l2 K p0 x40 k (kwrap .i64 (x63 + 1)))))) else some (.inr ()))
def g_R_GraphError_l0 (K : Nat) (p1 : List (List Int)) (p0 : Int) : Nat → Int → Option (Int ⊕ Unit)
  | 0, _ => none
  | k + 1, x29 => (if (decide (x29 < (List.length p1 : Int))) = true then ((idx p1 x29).bind fun x40 => (bindS (g_R_GraphError_l2 K p0 x40 K 0) (tu1 fun a111 => some (.inl a111)) (tu0 (g_R_GraphError_l0 K p1 p0 k (kwrap .i64 (x29 + 1)))))) else some (.inr ()))
def g_R_GraphError (K : Nat) (p0 : Int) (p1 : List (List Int)) : Option Int := (Option.bind ((if (decide (p0 < 0)) = true then some true else (if (decide (p0 > 24)) = true then some true else some (decide ((List.length p1 : Int) > 64))))) (tu1 fun x12 => (if x12 = true then some 2 else (bindS (g_R_GraphError_l0 K p1 p0 K 0) (tu1 fun a121 => some a121) (tu0 (some 0))))))
set_option maxHeartbeats 4000000 in
theorem g_R_GraphError_ok (K : Nat) {G : GM} {H : AH} {L : List Pc} (p0 : Int) (v1 : Value) (p1 : List (List Int)) (hp1 : (rSl (rArr 2 (rI .i64))).rep G [v1] p1) (O : Ow G H (L)) (r : Int) (h : g_R_GraphError K p0 p1 = some r) :
    CR Try.prog 12 [(.int .i64 p0), v1] G H (L) (fun v G' _ => v = .int .i64 r) := by
  unfold g_R_GraphError at h
  refine CR.of (calls_of_AW (n := 39) (fn := Try.f12) (R := fun v H' => ∃ G', Ow G' H' (L) ∧ G.le G' ∧ v = .int .i64 r) (by kernel_rfl) rfl rfl ?_)
  refine .seq ?_
  refine .region ?_
  refine W.pure (v := (.int .i64 0)) rfl rfl (v_assign (oo rfl rfl)) ?_
  refine .nil ?_
  refine .seq ?_
  refine .seq ?_
  obtain ⟨q1, h2, h3⟩ := bd_inv h
  refine AW.midT (fun σ' H' => ∃ (y1 : Bool) (G' : GM), y1 = q1 ∧ Ow G' H' (L) ∧ GM.le G G' ∧ σ' 19 = .bool y1) ?_ ?_
  · refine .region ?_
    refine W.pure (v := (.int .i64 p0)) rfl rfl (v_move (oo rfl rfl)) ?_
    refine W.pure (v := (.bool (decide (p0 < 0)))) rfl rfl (v_int (oo rfl rfl) (oo rfl rfl) rfl) ?_
    refine W.pure (v := (.bool (decide (p0 < 0)))) rfl rfl (v_move (oo rfl rfl)) ?_
    refine W.splitAt (t := 11) (b := decide (p0 < 0)) rfl (fun g4 gv5 => ?_) (fun g4 gv5 => ?_)
    · have h6 := pos_inv g4 h2
      refine W.skip (gk rfl rfl gv5 rfl) rfl ?_
      refine W.skip (gk rfl rfl gv5 rfl) rfl ?_
      refine W.pure (v := (.bool true)) rfl rfl (v_pickT (oo rfl gv5) (oo rfl rfl)) ?_
      refine W.pure (v := (.bool true)) rfl rfl (v_move (oo rfl rfl)) ?_
      refine W.skip (gk rfl rfl rfl rfl) rfl ?_
      refine W.skip (gk rfl rfl rfl rfl) rfl ?_
      refine W.skip (gk rfl rfl rfl rfl) rfl ?_
      refine W.pure (v := (.bool true)) rfl rfl (v_pickT (oo rfl rfl) (oo rfl rfl)) ?_
      refine .nil ?_
      obtain rfl := Option.some.inj h6
      exact ⟨true, _, rfl, O, (GM.le.refl _), rfl⟩
    · have h7 := neg_b g4 h2
      refine W.pure (v := (.int .i64 p0)) (gk rfl rfl gv5 rfl) rfl (v_move (oo rfl rfl)) ?_
      refine W.pure (v := (.bool (decide (p0 > 24)))) (gk rfl rfl gv5 rfl) rfl (v_int (oo rfl rfl) (oo rfl rfl) rfl) ?_
      refine W.pure (v := (.bool (decide (p0 > 24)))) rfl rfl (v_pickF (oo rfl gv5) (oo rfl rfl)) ?_
      refine W.pure (v := (.bool (decide (p0 > 24)))) rfl rfl (v_move (oo rfl rfl)) ?_
      refine W.splitAt (t := 15) (b := decide (p0 > 24)) rfl (fun g8 gv9 => ?_) (fun g8 gv9 => ?_)
      · have h10 := pos_inv g8 h7
        refine W.skip (gk rfl rfl gv9 rfl) rfl ?_
        refine W.skip (gk rfl rfl gv9 rfl) rfl ?_
        refine W.skip (gk rfl rfl gv9 rfl) rfl ?_
        refine W.pure (v := (.bool true)) rfl rfl (v_pickT (oo rfl gv9) (oo rfl rfl)) ?_
        refine .nil ?_
        obtain rfl := Option.some.inj h10
        exact ⟨true, _, rfl, O, (GM.le.refl _), rfl⟩
      · have h11 := neg_b g8 h7
        refine W.pure (v := v1) (gk rfl rfl gv9 rfl) rfl (v_move (oo rfl rfl)) ?_
        refine W.pure (v := (.int .i64 (List.length p1 : Int))) (gk rfl rfl gv9 rfl) rfl (len_sl (oo rfl rfl) (sl_len hp1) (elemT_inv el22)) ?_
        refine W.pure (v := (.bool (decide ((List.length p1 : Int) > 64)))) (gk rfl rfl gv9 rfl) rfl (v_int (oo rfl rfl) (oo rfl rfl) rfl) ?_
        refine W.pure (v := (.bool (decide ((List.length p1 : Int) > 64)))) rfl rfl (v_pickF (oo rfl gv9) (oo rfl rfl)) ?_
        refine .nil ?_
        obtain rfl := Option.some.inj h11
        exact ⟨decide ((List.length p1 : Int) > 64), _, rfl, O, (GM.le.refl _), rfl⟩
  · rintro σ13 H14 fr15 ⟨x12, G16, rfl, O17, s18, t20⟩
    have h21 := tu1_inv h3
    refine .cond (b := x12) rfl t20 (fun g22 => ?_) (fun g22 => ?_)
    · have h23 := pos_inv g22 h21
      refine .seq ?_
      refine .region ?_
      refine W.pure (v := (.int .i64 2)) rfl rfl (v_assign (oo rfl rfl)) ?_
      refine .nil ?_
      refine .ret ?_
      obtain rfl := Option.some.inj h23
      refine ret1R (P := Try.prog) (fn := Try.f12) (n := 39) (R := fun v H' => ∃ G', Ow G' H' (L) ∧ G.le G' ∧ v = .int .i64 2) (v1 := (.int .i64 2)) (by rfl) (rr_tmp (by rfl) (by exact rfl)) ?_
      exact ⟨_, O17, s18, rfl⟩
    · have h24 := neg_b g22 h21
      refine .skip ?_
      refine .seq ?_
      refine .seq ?_
      refine .region ?_
      refine W.pure (v := v1) rfl rfl (v_move (oo rfl ((fr15 1 rfl).trans rfl))) ?_
      refine W.pure (v := (.int .i64 (List.length p1 : Int))) rfl rfl (len_sl (oo rfl rfl) (sl_len (RT.mono _ s18 hp1)) (elemT_inv el22)) ?_
      refine W.pure (v := (.int .i64 0)) rfl rfl (v_move (oo rfl rfl)) ?_
      refine .nil ?_
      obtain ⟨q25, h26, h27⟩ := bindS_inv h24
      refine AW.midT (fun σ' H' => ∃  (G' : GM), (.inr ()) = q25 ∧ Ow G' H' (L) ∧ GM.le G16 G') ?_ ?_
      · refine .block ?_
        refine AW.loop (α := Nat) (fun k' σ' H' => ∃ (y1 : Int) (G' : GM), g_R_GraphError_l0 K p1 p0 k' y1 = some q25 ∧ Ow G' H' (L) ∧ GM.le G16 G' ∧ σ' 22 = .int .i64 y1) (fun k' => k') K ⟨0, _, h26, O17, (GM.le.refl _), rfl⟩ ?_
        rintro k28
        rintro σ30 H31 fr32 ⟨x29, G33, h36, O34, s35, t37⟩
        rcases k28 with _ | k28
        · exact none_absurd h36
        rw [g_R_GraphError_l0] at h36
        refine .seq ?_
        refine .region ?_
        refine W.pure (v := (.bool (decide (x29 < (List.length p1 : Int))))) rfl rfl (v_int (oo rfl t37) (oo rfl ((fr32 21 rfl).trans rfl)) rfl) ?_
        refine .nil ?_
        refine .seq ?_
        refine .cond (b := decide (x29 < (List.length p1 : Int))) rfl rfl (fun g38 => ?_) (fun g38 => ?_)
        · have h39 := pos_inv g38 h36
          refine .skip ?_
          refine .seq ?_
          refine .block ?_
          refine .seq ?_
          refine .region ?_
          obtain ⟨x40, i41, h42⟩ := bd_inv h39
          have j43 := idx_inv i41
          refine W.pure (v := (selem v1 (Int.toNat x29 * 2))) rfl rfl (v_idx el22 sz29 (oo rfl ((fr32 20 rfl).trans rfl)) (oo rfl t37) (sl_len (RT.mono _ (GM.le.trans s18 s35) hp1)) j43.1 j43.2.1) ?_
          obtain ⟨c44, p45, f46⟩ := (At.le (At.le (sl_idx hp1 j43.2.2) (GM.le.trans s18 s35) (GM.le.trans s18 s35)) (GM.le.refl _) O34.fro)
          refine W.loadA (cs := c44) rfl rfl ag29 sz29 (pt_px rfl p45) (RT.len _ f46) ?_
          refine W.lo rfl rfl (Lo.alloc (r := (rArr 2 (rI .i64))) (x0 := (List.replicate 2 0)) ze29 (by kernel_rfl) (fun G => ⟨by simp, List.replicate 2 [.int .i64 0], rfl, All2.replicate ((zI .i64) G) 2⟩) O34) ?_
          rintro v50 H51 ⟨b48, rfl, O47, sm49⟩
          refine W.lo rfl rfl (Lo.storeVar (j := 0) (s := (rArr 2 (rI .i64))) (y0 := x40) (v := (.agg (List.toArray c44))) (o := 0) rfl ((Put.at (Put.self _) _ _)) rfl sz29 rfl (by omega) rfl f46 O47) ?_
          rintro v54 H55 ⟨O52, sm53⟩
          replace O52 : Ow G33 H55 (eVar b48 29 (rArr 2 (rI .i64)) x40 :: L) := O52
          refine .nil ?_
          refine .seq ?_
          refine .region ?_
          obtain ⟨c56, p57, f58⟩ := (O52.atVar (j := 0) rfl)
          refine W.loadA (cs := c56) rfl rfl ag29 sz29 (pt_px rfl p57) (RT.len _ f58) ?_
          refine W.pure (v := (.int .i64 0)) rfl rfl (v_move (oo rfl rfl)) ?_
          refine .nil ?_
          obtain ⟨q59, h60, h61⟩ := bindS_inv h42
          refine AW.midT (fun σ' H' => ∃  (G' : GM), (.inr ()) = q59 ∧ Ow G' H' (eVar b48 29 (rArr 2 (rI .i64)) x40 :: L) ∧ GM.le G33 G') ?_ ?_
          · refine .block ?_
            refine AW.loop (α := Nat) (fun k' σ' H' => ∃ (y1 : Int) (G' : GM), g_R_GraphError_l2 K p0 x40 k' y1 = some q59 ∧ Ow G' H' (eVar b48 29 (rArr 2 (rI .i64)) x40 :: L) ∧ GM.le G33 G' ∧ σ' 27 = .int .i64 y1) (fun k' => k') K ⟨0, _, h60, O52, (GM.le.refl _), rfl⟩ ?_
            rintro k62
            rintro σ64 H65 fr66 ⟨x63, G67, h70, O68, s69, t71⟩
            rcases k62 with _ | k62
            · exact none_absurd h70
            rw [g_R_GraphError_l2] at h70
            refine .seq ?_
            refine .region ?_
            refine W.pure (v := (.bool (decide (x63 < 2)))) rfl rfl (v_int (oo rfl t71) (oo rfl rfl) rfl) ?_
            refine .nil ?_
            refine .seq ?_
            refine .cond (b := decide (x63 < 2)) rfl rfl (fun g72 => ?_) (fun g72 => ?_)
            · have h73 := pos_inv g72 h70
              refine .skip ?_
              refine .seq ?_
              refine .block ?_
              refine .seq ?_
              refine .region ?_
              obtain ⟨x74, i75, h76⟩ := bd_inv h73
              have j77 := idx_inv i75
              refine W.pure (v := (.int .i64 x74)) rfl rfl (v_index1 ar29 sz3 ag3 (oo rfl ((fr66 26 rfl).trans rfl)) (oo rfl t71) (RT.mono _ s69 f58) j77.1 j77.2.2 (fun _ h => h)) ?_
              refine W.pure (v := (.int .i64 x74)) rfl rfl (v_assign (oo rfl rfl)) ?_
              refine .nil ?_
              refine .seq ?_
              obtain ⟨q78, h79, h80⟩ := bd_inv h76
              refine AW.midT (fun σ' H' => ∃ (y1 : Bool) (G' : GM), y1 = q78 ∧ Ow G' H' (eVar b48 29 (rArr 2 (rI .i64)) x40 :: L) ∧ GM.le G67 G' ∧ σ' 36 = .bool y1) ?_ ?_
              · refine .region ?_
                refine W.pure (v := (.int .i64 x74)) rfl rfl (v_move (oo rfl rfl)) ?_
                refine W.pure (v := (.bool (decide (x74 < 0)))) rfl rfl (v_int (oo rfl rfl) (oo rfl rfl) rfl) ?_
                refine W.pure (v := (.bool (decide (x74 < 0)))) rfl rfl (v_move (oo rfl rfl)) ?_
                refine W.splitAt (t := 32) (b := decide (x74 < 0)) rfl (fun g81 gv82 => ?_) (fun g81 gv82 => ?_)
                · have h83 := pos_inv g81 h79
                  refine W.skip (gk rfl rfl gv82 rfl) rfl ?_
                  refine W.skip (gk rfl rfl gv82 rfl) rfl ?_
                  refine W.skip (gk rfl rfl gv82 rfl) rfl ?_
                  refine W.pure (v := (.bool true)) rfl rfl (v_pickT (oo rfl gv82) (oo rfl rfl)) ?_
                  refine .nil ?_
                  obtain rfl := Option.some.inj h83
                  exact ⟨true, _, rfl, O68, (GM.le.refl _), rfl⟩
                · have h84 := neg_b g81 h79
                  refine W.pure (v := (.int .i64 x74)) (gk rfl rfl gv82 rfl) rfl (v_move (oo rfl rfl)) ?_
                  refine W.pure (v := (.int .i64 p0)) (gk rfl rfl gv82 rfl) rfl (v_move (oo rfl ((fr66 0 rfl).trans ((fr32 0 rfl).trans ((fr15 0 rfl).trans rfl))))) ?_
                  refine W.pure (v := (.bool (decide (x74 ≥ p0)))) (gk rfl rfl gv82 rfl) rfl (v_int (oo rfl rfl) (oo rfl rfl) rfl) ?_
                  refine W.pure (v := (.bool (decide (x74 ≥ p0)))) rfl rfl (v_pickF (oo rfl gv82) (oo rfl rfl)) ?_
                  refine .nil ?_
                  obtain rfl := Option.some.inj h84
                  exact ⟨decide (x74 ≥ p0), _, rfl, O68, (GM.le.refl _), rfl⟩
              · rintro σ86 H87 fr88 ⟨x85, G89, rfl, O90, s91, t93⟩
                have h94 := tu1_inv h80
                refine .cond (b := x85) rfl t93 (fun g95 => ?_) (fun g95 => ?_)
                · have h96 := pos_inv g95 h94
                  refine .seq ?_
                  refine .region ?_
                  refine W.pure (v := (.int .i64 4)) rfl rfl (v_assign (oo rfl rfl)) ?_
                  refine .nil ?_
                  refine .ret ?_
                  have O97 : Ow G89 H87 (L) := O90.drop 0
                  obtain rfl := Option.some.inj h96
                  have h98 := tu1_inv (outS_l h61)
                  obtain rfl := Option.some.inj h98
                  have h99 := tu1_inv (outS_l h27)
                  obtain rfl := Option.some.inj h99
                  refine ret1R (P := Try.prog) (fn := Try.f12) (n := 39) (R := fun v H' => ∃ G', Ow G' H' (L) ∧ G.le G' ∧ v = .int .i64 4) (v1 := (.int .i64 4)) (by rfl) (rr_tmp (by rfl) (by exact rfl)) ?_
                  exact ⟨_, O97, (GM.le.trans s18 (GM.le.trans s35 (GM.le.trans s69 s91))), rfl⟩
                · have h100 := neg_b g95 h94
                  refine .skip ?_
                  refine .region ?_
                  refine W.pure (v := (.int .i64 (kwrap .i64 (x63 + 1)))) rfl rfl (v_int (oo rfl ((fr88 27 rfl).trans t71)) (oo rfl rfl) rfl) ?_
                  refine W.pure (v := (.int .i64 (kwrap .i64 (x63 + 1)))) rfl rfl (v_move (oo rfl rfl)) ?_
                  refine .nil ?_
                  exact ⟨k62, Nat.lt_succ_self _, ⟨kwrap .i64 (x63 + 1), _, h100, O90, (GM.le.trans s69 s91), rfl⟩⟩
            · have h101 := neg_b g72 h70
              refine .exit ?_
              obtain rfl := Option.some.inj h101
              exact ⟨_, rfl, O68, s69⟩
          · rintro σ102 H103 fr104 ⟨G105, rfl, O106, s107⟩
            have h109 := tu0_inv (outS_r h61)
            refine .region ?_
            refine W.pure (v := (.int .i64 (kwrap .i64 (x29 + 1)))) rfl rfl (v_int (oo rfl ((fr104 22 rfl).trans t37)) (oo rfl rfl) rfl) ?_
            refine W.pure (v := (.int .i64 (kwrap .i64 (x29 + 1)))) rfl rfl (v_move (oo rfl rfl)) ?_
            refine .nil ?_
            have O110 : Ow G105 H103 (L) := O106.drop 0
            exact ⟨k28, Nat.lt_succ_self _, ⟨kwrap .i64 (x29 + 1), _, h109, O110, (GM.le.trans s35 s107), rfl⟩⟩
        · have h112 := neg_b g38 h36
          refine .exit ?_
          obtain rfl := Option.some.inj h112
          exact ⟨_, rfl, O34, s35⟩
      · rintro σ113 H114 fr115 ⟨G116, rfl, O117, s118⟩
        have h120 := tu0_inv (outS_r h27)
        refine .seq ?_
        refine .region ?_
        refine W.pure (v := (.int .i64 0)) rfl rfl (v_assign (oo rfl rfl)) ?_
        refine .nil ?_
        refine .ret ?_
        obtain rfl := Option.some.inj h120
        refine ret1R (P := Try.prog) (fn := Try.f12) (n := 39) (R := fun v H' => ∃ G', Ow G' H' (L) ∧ G.le G' ∧ v = .int .i64 0) (v1 := (.int .i64 0)) (by rfl) (rr_tmp (by rfl) (by exact rfl)) ?_
        exact ⟨_, O117, (GM.le.trans s18 s118), rfl⟩
def g_R_Joined_l0 (K : Nat) (p0 : Int) : Nat → List (List Bool) → Int → Option (List (List Bool))
  | 0, _, _ => none
  | k + 1, x12, x13 => (lt (decide (x13 < (List.length (List.replicate (Int.toNat p0) ([] : List Bool)) : Int))) fun x23 => (if x23 = true then (if 0 ≤ p0 ∧ p0 ≤ p0 ∧ p0 ≤ 16777216 then ((idx x12 x13).bind fun x34 => ((idx (List.set x12 (Int.toNat x13) (List.replicate (Int.toNat p0) false)) x13).bind fun x50 => ((idx x50 x13).bind fun x59 => g_R_Joined_l0 K p0 k (List.set (List.set x12 (Int.toNat x13) (List.replicate (Int.toNat p0) false)) (Int.toNat x13) (List.set x50 (Int.toNat x13) true)) (kwrap .i64 (x13 + 1))))) else none) else some x12))
def g_R_Joined_l2 (K : Nat) (p1 : List (List Int)) (p2 : Int → Option Bool) : Nat → List (List Bool) → Int → Option (List (List Bool))
  | 0, _, _ => none
  | k + 1, x83, x84 => (if (decide (x84 < (List.length p1 : Int))) = true then (Option.bind (((idx p1 x84).bind fun x98 => ((p2 x84).bind fun x114 => (if x114 = true then ((idx x98 0).bind fun x130 => ((idx x83 x130).bind fun x134 => ((idx x98 1).bind fun x142 => ((idx x98 1).bind fun x146 => ((idx x83 x146).bind fun x150 => ((idx x98 0).bind fun x158 => ((idx x134 x142).bind fun x163 => ((idx (List.set x83 (Int.toNat x130) (List.set x134 (Int.toNat x142) true)) x146).bind fun x172 => ((idx x172 x158).bind fun x177 => some (List.set (List.set x83 (Int.toNat x130) (List.set x134 (Int.toNat x142) true)) (Int.toNat x146) (List.set x172 (Int.toNat x158) true))))))))))) else some x83)))) (tu1 fun x189 => g_R_Joined_l2 K p1 p2 k x189 (kwrap .i64 (x84 + 1)))) else some x83)
def g_R_Joined_l8 (K : Nat) (p0 : Int) (x213 : Int) (x229 : Int) : Nat → List (List Bool) → Int → Option (List (List Bool))
  | 0, _, _ => none
  | k + 1, x244, x245 => (if (decide (x245 < p0)) = true then (Option.bind (((idx x244 x229).bind fun x264 => ((idx x244 x229).bind fun x272 => ((idx x272 x245).bind fun x281 => (if x281 = true then ((idx x264 x245).bind fun x290 => some (List.set x244 (Int.toNat x229) (List.set x264 (Int.toNat x245) true))) else ((idx x244 x229).bind fun x301 => ((idx x301 x213).bind fun x310 => (if x310 = true then ((idx x244 x213).bind fun x318 => ((idx x318 x245).bind fun x327 => ((idx x264 x245).bind fun x333 => some (List.set x244 (Int.toNat x229) (List.set x264 (Int.toNat x245) x327))))) else ((idx x264 x245).bind fun x345 => some (List.set x244 (Int.toNat x229) (List.set x264 (Int.toNat x245) false))))))))))) (tu1 fun x354 => g_R_Joined_l8 K p0 x213 x229 k x354 (kwrap .i64 (x245 + 1)))) else some x244)
def g_R_Joined_l6 (K : Nat) (p0 : Int) (x213 : Int) : Nat → List (List Bool) → Int → Option (List (List Bool))
  | 0, _, _ => none
  | k + 1, x228, x229 => (if (decide (x229 < p0)) = true then (Option.bind (g_R_Joined_l8 K p0 x213 x229 K x228 0) (tu1 fun x364 => g_R_Joined_l6 K p0 x213 k x364 (kwrap .i64 (x229 + 1)))) else some x228)
def g_R_Joined_l4 (K : Nat) (p0 : Int) : Nat → List (List Bool) → Int → Option (List (List Bool))
  | 0, _, _ => none
  | k + 1, x212, x213 => (if (decide (x213 < p0)) = true then (Option.bind (g_R_Joined_l6 K p0 x213 K x212 0) (tu1 fun x374 => g_R_Joined_l4 K p0 k x374 (kwrap .i64 (x213 + 1)))) else some x212)
def g_R_Joined (K : Nat) (p0 : Int) (p1 : List (List Int)) (p2 : Int → Option Bool) : Option (List (List Bool)) := (if 0 ≤ p0 ∧ p0 ≤ p0 ∧ p0 ≤ 16777216 then (Option.bind (g_R_Joined_l0 K p0 K (List.replicate (Int.toNat p0) ([] : List Bool)) 0) (tu1 fun x69 => (Option.bind (g_R_Joined_l2 K p1 p2 K x69 0) (tu1 fun x199 => (Option.bind (g_R_Joined_l4 K p0 K x199 0) (tu1 fun x384 => some x384)))))) else none)
set_option maxHeartbeats 4000000 in
theorem g_R_Joined_ok (K : Nat) {G : GM} {H : AH} {L : List Pc} (p0 : Int) (v1 : Value) (p1 : List (List Int)) (hp1 : (rSl (rArr 2 (rI .i64))).rep G [v1] p1) (v2 : Value) (p2 : Int → Option Bool) (hp2 : FnOk Try.prog G v2 (fun _ vs (x : (Int)) => vs = [.int .i64 x]) (fun _ v (r : (Bool)) => v = .bool r) p2) (O : Ow G H (L)) (r : List (List Bool)) (h : g_R_Joined K p0 p1 p2 = some r) :
    CR Try.prog 14 [(.int .i64 p0), v1, v2] G H (L) (fun v G' _ => ∃ (w0 : Value), w0 = v ∧ (rSl (rSl rB)).rep G' [w0] r) := by
  unfold g_R_Joined at h
  refine CR.of (calls_of_AW (n := 107) (fn := Try.f14) (R := fun v H' => ∃ G', Ow G' H' (L) ∧ G.le G' ∧ ∃ (w0 : Value), w0 = v ∧ (rSl (rSl rB)).rep G' [w0] r) (by kernel_rfl) rfl rfl ?_)
  refine .seq ?_
  refine .region ?_
  refine W.pure (v := (.slice none 0 0)) rfl rfl (v_assign (oo rfl rfl)) ?_
  refine .nil ?_
  refine .seq ?_
  refine .region ?_
  refine W.pure (v := (.int .i64 p0)) rfl rfl (v_move (oo rfl rfl)) ?_
  obtain ⟨g2, h3⟩ := gd_inv h
  refine W.lo rfl rfl (Lo.makeRows (a := p0) (c := p0) rB 4 rfl el31 ze30 sz30 by30 (by decide) rfl rfl g2 O) ?_
  rintro v6 H7 ⟨ws4, O1, sm5⟩
  refine W.pure (v := v6) rfl rfl (v_assign (oo rfl rfl)) ?_
  refine .nil ?_
  refine .seq ?_
  refine .seq ?_
  refine .region ?_
  refine W.pure (v := v6) rfl rfl (v_move (oo rfl rfl)) ?_
  refine W.pure (v := (.int .i64 (List.length (List.replicate (Int.toNat p0) ([] : List Bool)) : Int))) rfl rfl (len_sl (oo rfl rfl) (O1.rowsLen (j := 0) rfl) (elemT_inv el31)) ?_
  refine W.pure (v := (.int .i64 0)) rfl rfl (v_move (oo rfl rfl)) ?_
  refine .nil ?_
  obtain ⟨q8, h9, h10⟩ := bd_inv h3
  refine AW.midT (fun σ' H' => ∃ (y1 : List (List Bool)) (ws_p15 : List Value) (G' : GM), y1 = q8 ∧ Ow G' H' (eRows v6 30 ws_p15 [] 4 rB y1 :: L) ∧ GM.le G G') ?_ ?_
  · refine .block ?_
    refine AW.loop (α := Nat) (fun k' σ' H' => ∃ (y1 : List (List Bool)) (y2 : Int) (ws_p15 : List Value) (G' : GM), g_R_Joined_l0 K p0 k' y1 y2 = some q8 ∧ Ow G' H' (eRows v6 30 ws_p15 [] 4 rB y1 :: L) ∧ GM.le G G' ∧ σ' 18 = .int .i64 y2) (fun k' => k') K ⟨(List.replicate (Int.toNat p0) ([] : List Bool)), 0, ws4, _, h9, O1, (GM.le.refl _), rfl⟩ ?_
    rintro k11
    rintro σ14 H15 fr16 ⟨x12, x13, ws21, G17, h20, O18, s19, t22⟩
    rcases k11 with _ | k11
    · exact none_absurd h20
    rw [g_R_Joined_l0] at h20
    refine .seq ?_
    refine .region ?_
    refine W.pure (v := (.bool (decide (x13 < (List.length (List.replicate (Int.toNat p0) ([] : List Bool)) : Int))))) rfl rfl (v_int (oo rfl t22) (oo rfl ((fr16 17 rfl).trans rfl)) rfl) ?_
    obtain ⟨x23, e24, h25⟩ := lt_inv h20
    refine .nil ?_
    refine .seq ?_
    refine .cond (b := x23) rfl (congrArg (Value.bool) e24) (fun g26 => ?_) (fun g26 => ?_)
    · have h27 := pos_inv g26 h25
      refine .skip ?_
      refine .seq ?_
      refine .block ?_
      refine .seq ?_
      refine .region ?_
      refine W.pure (v := (.int .i64 x13)) rfl rfl (v_move (oo rfl t22)) ?_
      refine W.pure (v := (.int .i64 x13)) rfl rfl (v_assign (oo rfl rfl)) ?_
      refine .nil ?_
      refine .seq ?_
      refine .region ?_
      refine W.pure (v := v6) rfl rfl (v_move (oo rfl ((fr16 7 rfl).trans rfl))) ?_
      refine W.pure (v := (.int .i64 x13)) rfl rfl (v_move (oo rfl rfl)) ?_
      refine W.pure (v := (.int .i64 p0)) rfl rfl (v_move (oo rfl ((fr16 0 rfl).trans rfl))) ?_
      obtain ⟨g29, h30⟩ := gd_inv h27
      refine W.lo rfl rfl (Lo.makeSlice (r := rB) (x0 := false) (a := p0) (c := p0) rfl el30 ze4 sz4 (by kernel_rfl) rfl by4 (by decide) rfl rfl g29 zB O18) ?_
      rintro v32 H33 ⟨O28, sm31⟩
      obtain ⟨x34, i35, h36⟩ := bd_inv h30
      have j37 := idx_inv i35
      refine W.pure (v := (selem v6 (Int.toNat x13 * 1))) rfl rfl (v_idx el31 sz30 (oo rfl rfl) (oo rfl rfl) (O28.rowsLen (j := 1) rfl) j37.1 j37.2.1) ?_
      obtain ⟨w38, e39, p40, k41⟩ := O28.rowVal (j := 1) rfl j37.2.2
      have O42 := O28.takeRow (j := 1) rfl e39 j37.2.2 List.not_mem_nil
      replace O42 : Ow G17 H33 (eSl w38 4 rB x34 :: eSl v32 4 rB (List.replicate (Int.toNat p0) false) :: eRows v6 30 ws21 [Int.toNat x13] 4 rB x12 :: L) := O42
      have O43 : Ow G17 H33 (eSl v32 4 rB (List.replicate (Int.toNat p0) false) :: eRows v6 30 ws21 [Int.toNat x13] 4 rB x12 :: L) := O42.drop 0
      have e45 := O43.cellsSl (j := 0) rfl
      refine W.lo rfl rfl (Lo.storeRow (j := 1) (i := Int.toNat x13) rfl (List.getElem?_eq_some_iff.1 j37.2.2).1 rfl sz30 rfl rfl e45.1 e45.2 O43) ?_
      rintro v47 H48 ⟨O44, sm46⟩
      replace O44 : Ow G17 H48 (eSl v32 4 rB (List.replicate (Int.toNat p0) false) :: eRows v6 30 (List.set ws21 (Int.toNat x13) v32) [Int.toNat x13] 4 rB x12 :: L) := O44
      refine .nil ?_
      refine .region ?_
      refine W.pure (v := v6) rfl rfl (v_move (oo rfl ((fr16 7 rfl).trans rfl))) ?_
      refine W.pure (v := (.int .i64 x13)) rfl rfl (v_move (oo rfl rfl)) ?_
      have O49 := O44.putRow (j := 0) rfl (set_at e39)
      replace O49 : Ow G17 H48 (eRows v6 30 (List.set ws21 (Int.toNat x13) v32) [] 4 rB (List.set x12 (Int.toNat x13) (List.replicate (Int.toNat p0) false)) :: L) := O49
      obtain ⟨x50, i51, h52⟩ := bd_inv h36
      have j53 := idx_inv i51
      refine W.pure (v := (selem v6 (Int.toNat x13 * 1))) rfl rfl (v_idx el31 sz30 (oo rfl rfl) (oo rfl rfl) (O49.rowsLen (j := 0) rfl) j53.1 j53.2.1) ?_
      obtain ⟨w54, e55, p56, k57⟩ := O49.rowVal (j := 0) rfl j53.2.2
      refine W.load1 (v := w54) (r := []) rfl rfl ag30 (pt_px rfl p56) ?_
      refine W.pure (v := (.int .i64 x13)) rfl rfl (v_move (oo rfl rfl)) ?_
      have O58 := O49.takeRow (j := 0) rfl e55 j53.2.2 List.not_mem_nil
      replace O58 : Ow G17 H48 (eSl w54 4 rB x50 :: eRows v6 30 (List.set ws21 (Int.toNat x13) v32) [Int.toNat x13] 4 rB (List.set x12 (Int.toNat x13) (List.replicate (Int.toNat p0) false)) :: L) := O58
      obtain ⟨x59, i60, h61⟩ := bd_inv h52
      have j62 := idx_inv i60
      refine W.pure (v := (selem w54 (Int.toNat x13 * 1))) rfl rfl (v_idx el30 sz4 (oo rfl rfl) (oo rfl rfl) (O58.slLen (j := 0) rfl) j62.1 j62.2.1) ?_
      refine W.lo rfl rfl (Lo.storeSl0 (j := 0) (y0 := true) (v := (.bool true)) rfl j62.2.2  rfl sz4 rfl rfl rfl O58) ?_
      rintro v65 H66 ⟨O63, sm64⟩
      replace O63 : Ow G17 H66 (eSl w54 4 rB (List.set x50 (Int.toNat x13) true) :: eRows v6 30 (List.set ws21 (Int.toNat x13) v32) [Int.toNat x13] 4 rB (List.set x12 (Int.toNat x13) (List.replicate (Int.toNat p0) false)) :: L) := O63
      refine .nil ?_
      refine .region ?_
      refine W.pure (v := (.int .i64 (kwrap .i64 (x13 + 1)))) rfl rfl (v_int (oo rfl t22) (oo rfl rfl) rfl) ?_
      refine W.pure (v := (.int .i64 (kwrap .i64 (x13 + 1)))) rfl rfl (v_move (oo rfl rfl)) ?_
      refine .nil ?_
      have O67 := O63.putRow (j := 0) rfl e55
      replace O67 : Ow G17 H66 (eRows v6 30 (List.set ws21 (Int.toNat x13) v32) [] 4 rB (List.set (List.set x12 (Int.toNat x13) (List.replicate (Int.toNat p0) false)) (Int.toNat x13) (List.set x50 (Int.toNat x13) true)) :: L) := O67
      exact ⟨k11, Nat.lt_succ_self _, ⟨(List.set (List.set x12 (Int.toNat x13) (List.replicate (Int.toNat p0) false)) (Int.toNat x13) (List.set x50 (Int.toNat x13) true)), kwrap .i64 (x13 + 1), (List.set ws21 (Int.toNat x13) v32), _, h61, O67, s19, rfl⟩⟩
    · have h68 := neg_b g26 h25
      refine .exit ?_
      obtain rfl := Option.some.inj h68
      exact ⟨x12, ws21, _, rfl, O18, s19⟩
  · rintro σ70 H71 fr72 ⟨x69, ws77, G73, rfl, O74, s75⟩
    have h78 := tu1_inv h10
    refine .seq ?_
    refine .seq ?_
    refine .region ?_
    refine W.pure (v := v1) rfl rfl (v_move (oo rfl ((fr72 1 rfl).trans rfl))) ?_
    refine W.pure (v := (.int .i64 (List.length p1 : Int))) rfl rfl (len_sl (oo rfl rfl) (sl_len (RT.mono _ s75 hp1)) (elemT_inv el22)) ?_
    refine W.pure (v := (.int .i64 0)) rfl rfl (v_move (oo rfl rfl)) ?_
    refine .nil ?_
    obtain ⟨q79, h80, h81⟩ := bd_inv h78
    refine AW.midT (fun σ' H' => ∃ (y1 : List (List Bool)) (G' : GM), y1 = q79 ∧ Ow G' H' (eRows v6 30 ws77 [] 4 rB y1 :: L) ∧ GM.le G73 G') ?_ ?_
    · refine .block ?_
      refine AW.loop (α := Nat) (fun k' σ' H' => ∃ (y1 : List (List Bool)) (y2 : Int) (G' : GM), g_R_Joined_l2 K p1 p2 k' y1 y2 = some q79 ∧ Ow G' H' (eRows v6 30 ws77 [] 4 rB y1 :: L) ∧ GM.le G73 G' ∧ σ' 35 = .int .i64 y2) (fun k' => k') K ⟨x69, 0, _, h80, O74, (GM.le.refl _), rfl⟩ ?_
      rintro k82
      rintro σ85 H86 fr87 ⟨x83, x84, G88, h91, O89, s90, t92⟩
      rcases k82 with _ | k82
      · exact none_absurd h91
      rw [g_R_Joined_l2] at h91
      refine .seq ?_
      refine .region ?_
      refine W.pure (v := (.bool (decide (x84 < (List.length p1 : Int))))) rfl rfl (v_int (oo rfl t92) (oo rfl ((fr87 34 rfl).trans rfl)) rfl) ?_
      refine .nil ?_
      refine .seq ?_
      refine .cond (b := decide (x84 < (List.length p1 : Int))) rfl rfl (fun g93 => ?_) (fun g93 => ?_)
      · have h94 := pos_inv g93 h91
        refine .skip ?_
        refine .seq ?_
        obtain ⟨q95, h96, h97⟩ := bd_inv h94
        refine AW.midT (fun σ' H' => ∃ (y1 : List (List Bool)) (G' : GM), y1 = q95 ∧ Ow G' H' (eRows v6 30 ws77 [] 4 rB y1 :: L) ∧ GM.le G88 G') ?_ ?_
        · refine .block ?_
          refine .seq ?_
          refine .region ?_
          refine W.pure (v := (.int .i64 x84)) rfl rfl (v_move (oo rfl t92)) ?_
          obtain ⟨x98, i99, h100⟩ := bd_inv h96
          have j101 := idx_inv i99
          refine W.pure (v := (selem v1 (Int.toNat x84 * 2))) rfl rfl (v_idx el22 sz29 (oo rfl ((fr87 33 rfl).trans rfl)) (oo rfl t92) (sl_len (RT.mono _ (GM.le.trans s75 s90) hp1)) j101.1 j101.2.1) ?_
          obtain ⟨c102, p103, f104⟩ := (At.le (At.le (sl_idx hp1 j101.2.2) (GM.le.trans s75 s90) (GM.le.trans s75 s90)) (GM.le.refl _) O89.fro)
          refine W.loadA (cs := c102) rfl rfl ag29 sz29 (pt_px rfl p103) (RT.len _ f104) ?_
          refine W.lo rfl rfl (Lo.alloc (r := (rArr 2 (rI .i64))) (x0 := (List.replicate 2 0)) ze29 (by kernel_rfl) (fun G => ⟨by simp, List.replicate 2 [.int .i64 0], rfl, All2.replicate ((zI .i64) G) 2⟩) O89) ?_
          rintro v108 H109 ⟨b106, rfl, O105, sm107⟩
          refine W.pure (v := (.int .i64 x84)) rfl rfl (v_assign (oo rfl rfl)) ?_
          refine W.lo rfl rfl (Lo.storeVar (j := 0) (s := (rArr 2 (rI .i64))) (y0 := x98) (v := (.agg (List.toArray c102))) (o := 0) rfl ((Put.at (Put.self _) _ _)) rfl sz29 rfl (by omega) rfl f104 O105) ?_
          rintro v112 H113 ⟨O110, sm111⟩
          replace O110 : Ow G88 H113 (eVar b106 29 (rArr 2 (rI .i64)) x98 :: eRows v6 30 ws77 [] 4 rB x83 :: L) := O110
          refine .nil ?_
          refine .seq ?_
          refine .region ?_
          refine W.pure (v := v2) rfl rfl (v_move (oo rfl ((fr87 2 rfl).trans ((fr72 2 rfl).trans rfl)))) ?_
          refine W.pure (v := (.int .i64 x84)) rfl rfl (v_move (oo rfl rfl)) ?_
          obtain ⟨x114, i115, h116⟩ := bd_inv h100
          refine W.lo rfl rfl (Lo.callF (x0 := x84) rfl rfl (FnOk.le hp2 (GM.le.trans s75 s90)) (mc rfl mn) rfl i115 O110) ?_
          rintro v121 H122 ⟨G117, O118, s119, sm120, rfl⟩
          refine .nil ?_
          refine .cond (b := x114) rfl rfl (fun g123 => ?_) (fun g123 => ?_)
          · have h124 := pos_inv g123 h116
            refine .draw2 (M := [0, 0, 2, 7, 15, 0, 32, 0, 0, 256, 896, 1920, 0, 4096, 4095, 20479, 65535, 131071]) mixed (by kernel_rfl) (by kernel_rfl) fun H125 N129 x126 F128 => ?_
            have O127 := O118.ext x126
            refine D2.pure (v := v6) rfl rfl (v_move (oo rfl ((fr87 7 rfl).trans ((fr72 7 rfl).trans rfl)))) ?_
            obtain ⟨x130, i131, h132⟩ := bd_inv h124
            have j133 := idx_inv i131
            refine D2.pure (v := (padd (.pointer (some ⟨b106, 0, none⟩)) (Int.toNat 0 * 1))) rfl rfl (v_idxAA ar29 sz3 (oo rfl rfl) (oo rfl rfl) (O127.atVar (j := 0) rfl) j133.1 j133.2.1) ?_
            refine D2.load1' (v := (.int .i64 x130)) (r := []) rfl rfl ag3 (pt_px rfl (At.int (At.aidx (O127.atVar (j := 0) rfl) j133.2.2))) fa_nil ?_
            obtain ⟨x134, i135, h136⟩ := bd_inv h132
            have j137 := idx_inv i135
            refine D2.pure (v := (selem v6 (Int.toNat x130 * 1))) rfl rfl (v_idx el31 sz30 (oo rfl rfl) (oo rfl rfl) (O127.rowsLen (j := 1) rfl) j137.1 j137.2.1) ?_
            obtain ⟨w138, e139, p140, k141⟩ := O127.rowVal (j := 1) rfl j137.2.2
            refine D2.load1' (v := w138) (r := []) rfl rfl ag30 (pt_px rfl p140) fa_nil ?_
            obtain ⟨x142, i143, h144⟩ := bd_inv h136
            have j145 := idx_inv i143
            refine D2.pure (v := (padd (.pointer (some ⟨b106, 0, none⟩)) (Int.toNat 1 * 1))) rfl rfl (v_idxAA ar29 sz3 (oo rfl rfl) (oo rfl rfl) (O127.atVar (j := 0) rfl) j145.1 j145.2.1) ?_
            refine D2.load1' (v := (.int .i64 x142)) (r := []) rfl rfl ag3 (pt_px rfl (At.int (At.aidx (O127.atVar (j := 0) rfl) j145.2.2))) fa_nil ?_
            refine D2.pure (v := v6) rfl rfl (v_move (oo rfl ((fr87 7 rfl).trans ((fr72 7 rfl).trans rfl)))) ?_
            obtain ⟨x146, i147, h148⟩ := bd_inv h144
            have j149 := idx_inv i147
            refine D2.pure (v := (padd (.pointer (some ⟨b106, 0, none⟩)) (Int.toNat 1 * 1))) rfl rfl (v_idxAA ar29 sz3 (oo rfl rfl) (oo rfl rfl) (O127.atVar (j := 0) rfl) j149.1 j149.2.1) ?_
            refine D2.load1' (v := (.int .i64 x146)) (r := []) rfl rfl ag3 (pt_px rfl (At.int (At.aidx (O127.atVar (j := 0) rfl) j149.2.2))) fa_nil ?_
            obtain ⟨x150, i151, h152⟩ := bd_inv h148
            have j153 := idx_inv i151
            refine D2.pure (v := (selem v6 (Int.toNat x146 * 1))) rfl rfl (v_idx el31 sz30 (oo rfl rfl) (oo rfl rfl) (O127.rowsLen (j := 1) rfl) j153.1 j153.2.1) ?_
            obtain ⟨w154, e155, p156, k157⟩ := O127.rowVal (j := 1) rfl j153.2.2
            refine D2.load1' (v := w154) (r := []) rfl rfl ag30 (pt_px rfl p156) fa_nil ?_
            obtain ⟨x158, i159, h160⟩ := bd_inv h152
            have j161 := idx_inv i159
            refine D2.pure (v := (padd (.pointer (some ⟨b106, 0, none⟩)) (Int.toNat 0 * 1))) rfl rfl (v_idxAA ar29 sz3 (oo rfl rfl) (oo rfl rfl) (O127.atVar (j := 0) rfl) j161.1 j161.2.1) ?_
            refine D2.load1' (v := (.int .i64 x158)) (r := []) rfl rfl ag3 (pt_px rfl (At.int (At.aidx (O127.atVar (j := 0) rfl) j161.2.2))) fa_nil ?_
            have O162 := O127.takeRow (j := 1) rfl e139 j137.2.2 List.not_mem_nil
            replace O162 : Ow G117 H125 (eSl w138 4 rB x134 :: eVar b106 29 (rArr 2 (rI .i64)) x98 :: eRows v6 30 ws77 [Int.toNat x130] 4 rB x83 :: L) := O162
            obtain ⟨x163, i164, h165⟩ := bd_inv h160
            have j166 := idx_inv i164
            refine D2.pure (v := (selem w138 (Int.toNat x142 * 1))) rfl rfl (v_idx el30 sz4 (oo rfl rfl) (oo rfl rfl) (O162.slLen (j := 0) rfl) j166.1 j166.2.1) ?_
            refine D2.lo rfl rfl (Lo.storeSl0 (j := 0) (y0 := true) (v := (.bool true)) rfl j166.2.2  rfl sz4 rfl rfl rfl O162) ?_ fa_nil ?_ ?_
            · rintro v169 H170 ⟨O167, sm168⟩; exact (faR1 (.inr (sm168 _ (O162.neP (i := 1) (j := 0) (by decide) rfl rfl (List.mem_singleton.2 rfl) (O162.footSl' (j := 0) rfl j166.2.2)))) (faR1 (.inl (by decide)) (faR1 (.inl (by decide)) (faR1 (.inl (by decide)) (faR1 (.inl (by decide)) (faR1 (.inl (by decide)) fa_nil))))))
            · rintro v169 H170 ⟨O167, sm168⟩; exact fa_nil
            rintro v169 H170 ⟨O167, sm168⟩
            replace O167 : Ow G117 H170 (eSl w138 4 rB (List.set x134 (Int.toNat x142) true) :: eVar b106 29 (rArr 2 (rI .i64)) x98 :: eRows v6 30 ws77 [Int.toNat x130] 4 rB x83 :: L) := O167
            have O171 := O167.putRow (j := 1) rfl e139
            replace O171 : Ow G117 H170 (eVar b106 29 (rArr 2 (rI .i64)) x98 :: eRows v6 30 ws77 [] 4 rB (List.set x83 (Int.toNat x130) (List.set x134 (Int.toNat x142) true)) :: L) := O171
            obtain ⟨x172, i173, h174⟩ := bd_inv h165
            have j175 := idx_inv i173
            have O176 := O171.takeRow (j := 1) rfl e155 j175.2.2 List.not_mem_nil
            replace O176 : Ow G117 H170 (eSl w154 4 rB x172 :: eVar b106 29 (rArr 2 (rI .i64)) x98 :: eRows v6 30 ws77 [Int.toNat x146] 4 rB (List.set x83 (Int.toNat x130) (List.set x134 (Int.toNat x142) true)) :: L) := O176
            obtain ⟨x177, i178, h179⟩ := bd_inv h174
            have j180 := idx_inv i178
            refine D2.pure (v := (selem w154 (Int.toNat x158 * 1))) rfl rfl (v_idx el30 sz4 (oo rfl rfl) (oo rfl rfl) (O176.slLen (j := 0) rfl) j180.1 j180.2.1) ?_
            refine D2.lo rfl rfl (Lo.storeSl0 (j := 0) (y0 := true) (v := (.bool true)) rfl j180.2.2  rfl sz4 rfl rfl rfl O176) ?_ (faL_bit (by decide) fa_nil) ?_ ?_
            · rintro v183 H184 ⟨O181, sm182⟩; exact (faR1 (.inl (by decide)) (faR1 (.inl (by decide)) (faR1 (.inl (by decide)) (faR1 (.inl (by decide)) (faR1 (.inl (by decide)) (faR1 (.inl (by decide)) fa_nil))))))
            · rintro v183 H184 ⟨O181, sm182⟩; exact fa_nil
            rintro v183 H184 ⟨O181, sm182⟩
            replace O181 : Ow G117 H184 (eSl w154 4 rB (List.set x172 (Int.toNat x158) true) :: eVar b106 29 (rArr 2 (rI .i64)) x98 :: eRows v6 30 ws77 [Int.toNat x146] 4 rB (List.set x83 (Int.toNat x130) (List.set x134 (Int.toNat x142) true)) :: L) := O181
            refine .nil ?_
            have O185 := O181.putRow (j := 1) rfl e155
            replace O185 : Ow G117 H184 (eVar b106 29 (rArr 2 (rI .i64)) x98 :: eRows v6 30 ws77 [] 4 rB (List.set (List.set x83 (Int.toNat x130) (List.set x134 (Int.toNat x142) true)) (Int.toNat x146) (List.set x172 (Int.toNat x158) true)) :: L) := O185
            have O186 : Ow G117 H184 (eRows v6 30 ws77 [] 4 rB (List.set (List.set x83 (Int.toNat x130) (List.set x134 (Int.toNat x142) true)) (Int.toNat x146) (List.set x172 (Int.toNat x158) true)) :: L) := O185.drop 0
            obtain rfl := Option.some.inj h179
            exact ⟨(List.set (List.set x83 (Int.toNat x130) (List.set x134 (Int.toNat x142) true)) (Int.toNat x146) (List.set x172 (Int.toNat x158) true)), _, rfl, O186, s119⟩
          · have h187 := neg_b g123 h116
            refine .skip ?_
            have O188 : Ow G117 H122 (eRows v6 30 ws77 [] 4 rB x83 :: L) := O118.drop 0
            obtain rfl := Option.some.inj h187
            exact ⟨x83, _, rfl, O188, s119⟩
        · rintro σ190 H191 fr192 ⟨x189, G193, rfl, O194, s195⟩
          have h197 := tu1_inv h97
          refine .region ?_
          refine W.pure (v := (.int .i64 (kwrap .i64 (x84 + 1)))) rfl rfl (v_int (oo rfl ((fr192 35 rfl).trans t92)) (oo rfl rfl) rfl) ?_
          refine W.pure (v := (.int .i64 (kwrap .i64 (x84 + 1)))) rfl rfl (v_move (oo rfl rfl)) ?_
          refine .nil ?_
          exact ⟨k82, Nat.lt_succ_self _, ⟨x189, kwrap .i64 (x84 + 1), _, h197, O194, (GM.le.trans s90 s195), rfl⟩⟩
      · have h198 := neg_b g93 h91
        refine .exit ?_
        obtain rfl := Option.some.inj h198
        exact ⟨x83, _, rfl, O89, s90⟩
    · rintro σ200 H201 fr202 ⟨x199, G203, rfl, O204, s205⟩
      have h207 := tu1_inv h81
      refine .seq ?_
      refine .seq ?_
      refine .region ?_
      refine W.pure (v := (.int .i64 p0)) rfl rfl (v_move (oo rfl ((fr202 0 rfl).trans ((fr72 0 rfl).trans rfl)))) ?_
      refine W.pure (v := (.int .i64 0)) rfl rfl (v_move (oo rfl rfl)) ?_
      refine .nil ?_
      obtain ⟨q208, h209, h210⟩ := bd_inv h207
      refine AW.midT (fun σ' H' => ∃ (y1 : List (List Bool)) (G' : GM), y1 = q208 ∧ Ow G' H' (eRows v6 30 ws77 [] 4 rB y1 :: L) ∧ GM.le G203 G') ?_ ?_
      · refine .block ?_
        refine AW.loop (α := Nat) (fun k' σ' H' => ∃ (y1 : List (List Bool)) (y2 : Int) (G' : GM), g_R_Joined_l4 K p0 k' y1 y2 = some q208 ∧ Ow G' H' (eRows v6 30 ws77 [] 4 rB y1 :: L) ∧ GM.le G203 G' ∧ σ' 61 = .int .i64 y2) (fun k' => k') K ⟨x199, 0, _, h209, O204, (GM.le.refl _), rfl⟩ ?_
        rintro k211
        rintro σ214 H215 fr216 ⟨x212, x213, G217, h220, O218, s219, t221⟩
        rcases k211 with _ | k211
        · exact none_absurd h220
        rw [g_R_Joined_l4] at h220
        refine .seq ?_
        refine .region ?_
        refine W.pure (v := (.bool (decide (x213 < p0)))) rfl rfl (v_int (oo rfl t221) (oo rfl ((fr216 60 rfl).trans rfl)) rfl) ?_
        refine .nil ?_
        refine .seq ?_
        refine .cond (b := decide (x213 < p0)) rfl rfl (fun g222 => ?_) (fun g222 => ?_)
        · have h223 := pos_inv g222 h220
          refine .skip ?_
          refine .seq ?_
          refine .block ?_
          refine .seq ?_
          refine .region ?_
          refine W.pure (v := (.int .i64 x213)) rfl rfl (v_move (oo rfl t221)) ?_
          refine W.pure (v := (.int .i64 x213)) rfl rfl (v_assign (oo rfl rfl)) ?_
          refine .nil ?_
          refine .seq ?_
          refine .region ?_
          refine W.pure (v := (.int .i64 p0)) rfl rfl (v_move (oo rfl ((fr216 0 rfl).trans ((fr202 0 rfl).trans ((fr72 0 rfl).trans rfl))))) ?_
          refine W.pure (v := (.int .i64 0)) rfl rfl (v_move (oo rfl rfl)) ?_
          refine .nil ?_
          obtain ⟨q224, h225, h226⟩ := bd_inv h223
          refine AW.midT (fun σ' H' => ∃ (y1 : List (List Bool)) (G' : GM), y1 = q224 ∧ Ow G' H' (eRows v6 30 ws77 [] 4 rB y1 :: L) ∧ GM.le G217 G') ?_ ?_
          · refine .block ?_
            refine AW.loop (α := Nat) (fun k' σ' H' => ∃ (y1 : List (List Bool)) (y2 : Int) (G' : GM), g_R_Joined_l6 K p0 x213 k' y1 y2 = some q224 ∧ Ow G' H' (eRows v6 30 ws77 [] 4 rB y1 :: L) ∧ GM.le G217 G' ∧ σ' 65 = .int .i64 y2) (fun k' => k') K ⟨x212, 0, _, h225, O218, (GM.le.refl _), rfl⟩ ?_
            rintro k227
            rintro σ230 H231 fr232 ⟨x228, x229, G233, h236, O234, s235, t237⟩
            rcases k227 with _ | k227
            · exact none_absurd h236
            rw [g_R_Joined_l6] at h236
            refine .seq ?_
            refine .region ?_
            refine W.pure (v := (.bool (decide (x229 < p0)))) rfl rfl (v_int (oo rfl t237) (oo rfl ((fr232 64 rfl).trans rfl)) rfl) ?_
            refine .nil ?_
            refine .seq ?_
            refine .cond (b := decide (x229 < p0)) rfl rfl (fun g238 => ?_) (fun g238 => ?_)
            · have h239 := pos_inv g238 h236
              refine .skip ?_
              refine .seq ?_
              refine .block ?_
              refine .seq ?_
              refine .region ?_
              refine W.pure (v := (.int .i64 x229)) rfl rfl (v_move (oo rfl t237)) ?_
              refine W.pure (v := (.int .i64 x229)) rfl rfl (v_assign (oo rfl rfl)) ?_
              refine .nil ?_
              refine .seq ?_
              refine .region ?_
              refine W.pure (v := (.int .i64 p0)) rfl rfl (v_move (oo rfl ((fr232 0 rfl).trans ((fr216 0 rfl).trans ((fr202 0 rfl).trans ((fr72 0 rfl).trans rfl)))))) ?_
              refine W.pure (v := (.int .i64 0)) rfl rfl (v_move (oo rfl rfl)) ?_
              refine .nil ?_
              obtain ⟨q240, h241, h242⟩ := bd_inv h239
              refine AW.midT (fun σ' H' => ∃ (y1 : List (List Bool)) (G' : GM), y1 = q240 ∧ Ow G' H' (eRows v6 30 ws77 [] 4 rB y1 :: L) ∧ GM.le G233 G') ?_ ?_
              · refine .block ?_
                refine AW.loop (α := Nat) (fun k' σ' H' => ∃ (y1 : List (List Bool)) (y2 : Int) (G' : GM), g_R_Joined_l8 K p0 x213 x229 k' y1 y2 = some q240 ∧ Ow G' H' (eRows v6 30 ws77 [] 4 rB y1 :: L) ∧ GM.le G233 G' ∧ σ' 69 = .int .i64 y2) (fun k' => k') K ⟨x228, 0, _, h241, O234, (GM.le.refl _), rfl⟩ ?_
                rintro k243
                rintro σ246 H247 fr248 ⟨x244, x245, G249, h252, O250, s251, t253⟩
                rcases k243 with _ | k243
                · exact none_absurd h252
                rw [g_R_Joined_l8] at h252
                refine .seq ?_
                refine .region ?_
                refine W.pure (v := (.bool (decide (x245 < p0)))) rfl rfl (v_int (oo rfl t253) (oo rfl ((fr248 68 rfl).trans rfl)) rfl) ?_
                refine .nil ?_
                refine .seq ?_
                refine .cond (b := decide (x245 < p0)) rfl rfl (fun g254 => ?_) (fun g254 => ?_)
                · have h255 := pos_inv g254 h252
                  refine .skip ?_
                  refine .seq ?_
                  obtain ⟨q256, h257, h258⟩ := bd_inv h255
                  refine AW.midT (fun σ' H' => ∃ (y1 : List (List Bool)) (G' : GM), y1 = q256 ∧ Ow G' H' (eRows v6 30 ws77 [] 4 rB y1 :: L) ∧ GM.le G249 G') ?_ ?_
                  · refine .block ?_
                    refine .seq ?_
                    refine .region ?_
                    refine W.pure (v := (.int .i64 x245)) rfl rfl (v_move (oo rfl t253)) ?_
                    refine W.pure (v := (.int .i64 x245)) rfl rfl (v_assign (oo rfl rfl)) ?_
                    refine .nil ?_
                    refine .draw2 (M := [0, 0, 3, 7, 0, 0, 0, 96, 224, 0, 992, 2016, 4064, 8160, 8160, 32736, 65504, 8160, 262112, 524256, 1048544, 2097120, 2097120, 8388576, 16777184, 2097120, 67108832, 134217696, 268435424, 536870880, 1073741823, 2147483647]) mixed (by kernel_rfl) (by kernel_rfl) fun H259 N263 x260 F262 => ?_
                    have O261 := O250.ext x260
                    refine D2.pure (v := v6) rfl rfl (v_move (oo rfl ((fr248 7 rfl).trans ((fr232 7 rfl).trans ((fr216 7 rfl).trans ((fr202 7 rfl).trans ((fr72 7 rfl).trans rfl))))))) ?_
                    refine D2.pure (v := (.int .i64 x229)) rfl rfl (v_move (oo rfl ((fr248 12 rfl).trans rfl))) ?_
                    obtain ⟨x264, i265, h266⟩ := bd_inv h257
                    have j267 := idx_inv i265
                    refine D2.pure (v := (selem v6 (Int.toNat x229 * 1))) rfl rfl (v_idx el31 sz30 (oo rfl rfl) (oo rfl rfl) (O261.rowsLen (j := 0) rfl) j267.1 j267.2.1) ?_
                    obtain ⟨w268, e269, p270, k271⟩ := O261.rowVal (j := 0) rfl j267.2.2
                    refine D2.load1' (v := w268) (r := []) rfl rfl ag30 (pt_px rfl p270) fa_nil ?_
                    refine D2.pure (v := (.int .i64 x245)) rfl rfl (v_move (oo rfl rfl)) ?_
                    refine D2.pure (v := v6) rfl rfl (v_move (oo rfl ((fr248 7 rfl).trans ((fr232 7 rfl).trans ((fr216 7 rfl).trans ((fr202 7 rfl).trans ((fr72 7 rfl).trans rfl))))))) ?_
                    refine D2.pure (v := (.int .i64 x229)) rfl rfl (v_move (oo rfl ((fr248 12 rfl).trans rfl))) ?_
                    obtain ⟨x272, i273, h274⟩ := bd_inv h266
                    have j275 := idx_inv i273
                    refine D2.pure (v := (selem v6 (Int.toNat x229 * 1))) rfl rfl (v_idx el31 sz30 (oo rfl rfl) (oo rfl rfl) (O261.rowsLen (j := 0) rfl) j275.1 j275.2.1) ?_
                    obtain ⟨w276, e277, p278, k279⟩ := O261.rowVal (j := 0) rfl j275.2.2
                    refine D2.load1' (v := w276) (r := []) rfl rfl ag30 (pt_px rfl p278) fa_nil ?_
                    refine D2.pure (v := (.int .i64 x245)) rfl rfl (v_move (oo rfl rfl)) ?_
                    have O280 := O261.takeRow (j := 0) rfl e277 j275.2.2 List.not_mem_nil
                    replace O280 : Ow G249 H259 (eSl w276 4 rB x272 :: eRows v6 30 ws77 [Int.toNat x229] 4 rB x244 :: L) := O280
                    obtain ⟨x281, i282, h283⟩ := bd_inv h274
                    have j284 := idx_inv i282
                    refine D2.pure (v := (selem w276 (Int.toNat x245 * 1))) rfl rfl (v_idx el30 sz4 (oo rfl rfl) (oo rfl rfl) (O280.slLen (j := 0) rfl) j284.1 j284.2.1) ?_
                    refine D2.load1' (v := (.bool x281)) (r := []) rfl rfl ag4 (pt_px rfl (At.bool (O280.atSl (j := 0) rfl j284.2.2))) fa_nil ?_
                    refine D2.pure (v := (.bool x281)) rfl rfl (v_move (oo rfl rfl)) ?_
                    refine D2.splitAt (t := 84) (b := x281) rfl (fun g285 gv286 => ?_) (fun g285 gv286 => ?_)
                    · have h287 := pos_inv g285 h283
                      refine D2.skip (gk rfl rfl gv286 rfl) rfl ?_
                      refine D2.skip (gk rfl rfl gv286 rfl) rfl ?_
                      refine D2.skip (gk rfl rfl gv286 rfl) rfl ?_
                      refine D2.skip (gk rfl rfl gv286 rfl) rfl ?_
                      refine D2.skip (gk rfl rfl gv286 rfl) rfl ?_
                      refine D2.skip (gk rfl rfl gv286 rfl) rfl ?_
                      refine D2.skip (gk rfl rfl gv286 rfl) rfl ?_
                      refine D2.skip (gk rfl rfl gv286 rfl) rfl ?_
                      refine D2.skipU rfl rfl rfl rfl ?_
                      refine D2.skipU rfl rfl rfl rfl ?_
                      refine D2.skipU rfl rfl rfl rfl ?_
                      refine D2.skipU rfl rfl rfl rfl ?_
                      refine D2.skipU rfl rfl rfl rfl ?_
                      refine D2.skipU rfl rfl rfl rfl ?_
                      refine D2.skipU rfl rfl rfl rfl ?_
                      refine D2.skip (gk rfl rfl gv286 rfl) rfl ?_
                      refine D2.pure (v := (.bool true)) rfl rfl (v_pickT (oo rfl gv286) (oo rfl rfl)) ?_
                      have O288 := O280.putRow0 (j := 0) rfl e277 j275.2.2
                      replace O288 : Ow G249 H259 (eRows v6 30 ws77 [] 4 rB x244 :: L) := O288
                      have O289 := O288.takeRow (j := 0) rfl e269 j267.2.2 List.not_mem_nil
                      replace O289 : Ow G249 H259 (eSl w268 4 rB x264 :: eRows v6 30 ws77 [Int.toNat x229] 4 rB x244 :: L) := O289
                      obtain ⟨x290, i291, h292⟩ := bd_inv h287
                      have j293 := idx_inv i291
                      refine D2.pure (v := (selem w268 (Int.toNat x245 * 1))) rfl rfl (v_idx el30 sz4 (oo rfl rfl) (oo rfl rfl) (O289.slLen (j := 0) rfl) j293.1 j293.2.1) ?_
                      refine D2.lo rfl rfl (Lo.storeSl0 (j := 0) (y0 := true) (v := (.bool true)) rfl j293.2.2  rfl sz4 rfl rfl rfl O289) ?_ fa_nil ?_ ?_
                      · rintro v296 H297 ⟨O294, sm295⟩; exact (faR1 (.inl (by decide)) (faR1 (.inl (by decide)) (faR1 (.inl (by decide)) fa_nil)))
                      · rintro v296 H297 ⟨O294, sm295⟩; exact fa_nil
                      rintro v296 H297 ⟨O294, sm295⟩
                      replace O294 : Ow G249 H297 (eSl w268 4 rB (List.set x264 (Int.toNat x245) true) :: eRows v6 30 ws77 [Int.toNat x229] 4 rB x244 :: L) := O294
                      refine .nil ?_
                      have O298 := O294.putRow (j := 0) rfl e269
                      replace O298 : Ow G249 H297 (eRows v6 30 ws77 [] 4 rB (List.set x244 (Int.toNat x229) (List.set x264 (Int.toNat x245) true)) :: L) := O298
                      obtain rfl := Option.some.inj h292
                      exact ⟨(List.set x244 (Int.toNat x229) (List.set x264 (Int.toNat x245) true)), _, rfl, O298, (GM.le.refl _)⟩
                    · have h299 := neg_b g285 h283
                      refine D2.pure (v := v6) (gk rfl rfl gv286 rfl) rfl (v_move (oo rfl ((fr248 7 rfl).trans ((fr232 7 rfl).trans ((fr216 7 rfl).trans ((fr202 7 rfl).trans ((fr72 7 rfl).trans rfl))))))) ?_
                      refine D2.pure (v := (.int .i64 x229)) (gk rfl rfl gv286 rfl) rfl (v_move (oo rfl ((fr248 12 rfl).trans rfl))) ?_
                      have O300 := O280.putRow0 (j := 0) rfl e277 j275.2.2
                      replace O300 : Ow G249 H259 (eRows v6 30 ws77 [] 4 rB x244 :: L) := O300
                      obtain ⟨x301, i302, h303⟩ := bd_inv h299
                      have j304 := idx_inv i302
                      refine D2.pure (v := (selem v6 (Int.toNat x229 * 1))) (gk rfl rfl gv286 rfl) rfl (v_idx el31 sz30 (oo rfl rfl) (oo rfl rfl) (O300.rowsLen (j := 0) rfl) j304.1 j304.2.1) ?_
                      obtain ⟨w305, e306, p307, k308⟩ := O300.rowVal (j := 0) rfl j304.2.2
                      refine D2.load1' (v := w305) (r := []) (gk rfl rfl gv286 rfl) rfl ag30 (pt_px rfl p307) fa_nil ?_
                      refine D2.pure (v := (.int .i64 x213)) (gk rfl rfl gv286 rfl) rfl (v_move (oo rfl ((fr248 11 rfl).trans ((fr232 11 rfl).trans rfl)))) ?_
                      have O309 := O300.takeRow (j := 0) rfl e306 j304.2.2 List.not_mem_nil
                      replace O309 : Ow G249 H259 (eSl w305 4 rB x301 :: eRows v6 30 ws77 [Int.toNat x229] 4 rB x244 :: L) := O309
                      obtain ⟨x310, i311, h312⟩ := bd_inv h303
                      have j313 := idx_inv i311
                      refine D2.pure (v := (selem w305 (Int.toNat x213 * 1))) (gk rfl rfl gv286 rfl) rfl (v_idx el30 sz4 (oo rfl rfl) (oo rfl rfl) (O309.slLen (j := 0) rfl) j313.1 j313.2.1) ?_
                      refine D2.load1' (v := (.bool x310)) (r := []) (gk rfl rfl gv286 rfl) rfl ag4 (pt_px rfl (At.bool (O309.atSl (j := 0) rfl j313.2.2))) fa_nil ?_
                      refine D2.pure (v := (.bool x310)) (gk rfl rfl gv286 rfl) rfl (v_move (oo rfl rfl)) ?_
                      refine D2.splitAt (t := 92) (b := x310) rfl (fun g314 gv315 => ?_) (fun g314 gv315 => ?_)
                      · have h316 := pos_inv g314 h312
                        refine D2.pure (v := v6) (gk rfl rfl gv315 rfl) rfl (v_move (oo rfl ((fr248 7 rfl).trans ((fr232 7 rfl).trans ((fr216 7 rfl).trans ((fr202 7 rfl).trans ((fr72 7 rfl).trans rfl))))))) ?_
                        refine D2.pure (v := (.int .i64 x213)) (gk rfl rfl gv315 rfl) rfl (v_move (oo rfl ((fr248 11 rfl).trans ((fr232 11 rfl).trans rfl)))) ?_
                        have O317 := O309.putRow0 (j := 0) rfl e306 j304.2.2
                        replace O317 : Ow G249 H259 (eRows v6 30 ws77 [] 4 rB x244 :: L) := O317
                        obtain ⟨x318, i319, h320⟩ := bd_inv h316
                        have j321 := idx_inv i319
                        refine D2.pure (v := (selem v6 (Int.toNat x213 * 1))) (gk rfl rfl gv315 rfl) rfl (v_idx el31 sz30 (oo rfl rfl) (oo rfl rfl) (O317.rowsLen (j := 0) rfl) j321.1 j321.2.1) ?_
                        obtain ⟨w322, e323, p324, k325⟩ := O317.rowVal (j := 0) rfl j321.2.2
                        refine D2.load1' (v := w322) (r := []) (gk rfl rfl gv315 rfl) rfl ag30 (pt_px rfl p324) fa_nil ?_
                        refine D2.pure (v := (.int .i64 x245)) (gk rfl rfl gv315 rfl) rfl (v_move (oo rfl rfl)) ?_
                        have O326 := O317.takeRow (j := 0) rfl e323 j321.2.2 List.not_mem_nil
                        replace O326 : Ow G249 H259 (eSl w322 4 rB x318 :: eRows v6 30 ws77 [Int.toNat x213] 4 rB x244 :: L) := O326
                        obtain ⟨x327, i328, h329⟩ := bd_inv h320
                        have j330 := idx_inv i328
                        refine D2.pure (v := (selem w322 (Int.toNat x245 * 1))) (gk rfl rfl gv315 rfl) rfl (v_idx el30 sz4 (oo rfl rfl) (oo rfl rfl) (O326.slLen (j := 0) rfl) j330.1 j330.2.1) ?_
                        refine D2.load1' (v := (.bool x327)) (r := []) (gk rfl rfl gv315 rfl) rfl ag4 (pt_px rfl (At.bool (O326.atSl (j := 0) rfl j330.2.2))) fa_nil ?_
                        refine D2.pure (v := (.bool x327)) (gk rfl rfl gv286 rfl) rfl (v_pickT (oo rfl gv315) (oo rfl rfl)) ?_
                        refine D2.pure (v := (.bool x327)) rfl rfl (v_pickF (oo rfl gv286) (oo rfl rfl)) ?_
                        have O331 := O326.putRow0 (j := 0) rfl e323 j321.2.2
                        replace O331 : Ow G249 H259 (eRows v6 30 ws77 [] 4 rB x244 :: L) := O331
                        have O332 := O331.takeRow (j := 0) rfl e269 j267.2.2 List.not_mem_nil
                        replace O332 : Ow G249 H259 (eSl w268 4 rB x264 :: eRows v6 30 ws77 [Int.toNat x229] 4 rB x244 :: L) := O332
                        obtain ⟨x333, i334, h335⟩ := bd_inv h329
                        have j336 := idx_inv i334
                        refine D2.pure (v := (selem w268 (Int.toNat x245 * 1))) rfl rfl (v_idx el30 sz4 (oo rfl rfl) (oo rfl rfl) (O332.slLen (j := 0) rfl) j336.1 j336.2.1) ?_
                        refine D2.lo rfl rfl (Lo.storeSl0 (j := 0) (y0 := x327) (v := (.bool x327)) rfl j336.2.2  rfl sz4 rfl rfl rfl O332) ?_ fa_nil ?_ ?_
                        · rintro v339 H340 ⟨O337, sm338⟩; exact (faR1 (.inl (by decide)) (faR1 (.inl (by decide)) (faR1 (.inl (by decide)) (faR1 (.inl (by decide)) (faR1 (.inl (by decide)) (faR1 (.inl (by decide)) (faR1 (.inl (by decide)) fa_nil)))))))
                        · rintro v339 H340 ⟨O337, sm338⟩; exact fa_nil
                        rintro v339 H340 ⟨O337, sm338⟩
                        replace O337 : Ow G249 H340 (eSl w268 4 rB (List.set x264 (Int.toNat x245) x327) :: eRows v6 30 ws77 [Int.toNat x229] 4 rB x244 :: L) := O337
                        refine .nil ?_
                        have O341 := O337.putRow (j := 0) rfl e269
                        replace O341 : Ow G249 H340 (eRows v6 30 ws77 [] 4 rB (List.set x244 (Int.toNat x229) (List.set x264 (Int.toNat x245) x327)) :: L) := O341
                        obtain rfl := Option.some.inj h335
                        exact ⟨(List.set x244 (Int.toNat x229) (List.set x264 (Int.toNat x245) x327)), _, rfl, O341, (GM.le.refl _)⟩
                      · have h342 := neg_b g314 h312
                        refine D2.skip (gk rfl rfl gv315 rfl) rfl ?_
                        refine D2.skip (gk rfl rfl gv315 rfl) rfl ?_
                        refine D2.skip (gk rfl rfl gv315 rfl) rfl ?_
                        refine D2.skip (gk rfl rfl gv315 rfl) rfl ?_
                        refine D2.skip (gk rfl rfl gv315 rfl) rfl ?_
                        refine D2.skip (gk rfl rfl gv315 rfl) rfl ?_
                        refine D2.skip (gk rfl rfl gv315 rfl) rfl ?_
                        refine D2.pure (v := (.bool false)) (gk rfl rfl gv286 rfl) rfl (v_pickF (oo rfl gv315) (oo rfl rfl)) ?_
                        refine D2.pure (v := (.bool false)) rfl rfl (v_pickF (oo rfl gv286) (oo rfl rfl)) ?_
                        have O343 := O309.putRow0 (j := 0) rfl e306 j304.2.2
                        replace O343 : Ow G249 H259 (eRows v6 30 ws77 [] 4 rB x244 :: L) := O343
                        have O344 := O343.takeRow (j := 0) rfl e269 j267.2.2 List.not_mem_nil
                        replace O344 : Ow G249 H259 (eSl w268 4 rB x264 :: eRows v6 30 ws77 [Int.toNat x229] 4 rB x244 :: L) := O344
                        obtain ⟨x345, i346, h347⟩ := bd_inv h342
                        have j348 := idx_inv i346
                        refine D2.pure (v := (selem w268 (Int.toNat x245 * 1))) rfl rfl (v_idx el30 sz4 (oo rfl rfl) (oo rfl rfl) (O344.slLen (j := 0) rfl) j348.1 j348.2.1) ?_
                        refine D2.lo rfl rfl (Lo.storeSl0 (j := 0) (y0 := false) (v := (.bool false)) rfl j348.2.2  rfl sz4 rfl rfl rfl O344) ?_ fa_nil ?_ ?_
                        · rintro v351 H352 ⟨O349, sm350⟩; exact (faR1 (.inl (by decide)) (faR1 (.inl (by decide)) (faR1 (.inl (by decide)) (faR1 (.inl (by decide)) (faR1 (.inl (by decide)) fa_nil)))))
                        · rintro v351 H352 ⟨O349, sm350⟩; exact fa_nil
                        rintro v351 H352 ⟨O349, sm350⟩
                        replace O349 : Ow G249 H352 (eSl w268 4 rB (List.set x264 (Int.toNat x245) false) :: eRows v6 30 ws77 [Int.toNat x229] 4 rB x244 :: L) := O349
                        refine .nil ?_
                        have O353 := O349.putRow (j := 0) rfl e269
                        replace O353 : Ow G249 H352 (eRows v6 30 ws77 [] 4 rB (List.set x244 (Int.toNat x229) (List.set x264 (Int.toNat x245) false)) :: L) := O353
                        obtain rfl := Option.some.inj h347
                        exact ⟨(List.set x244 (Int.toNat x229) (List.set x264 (Int.toNat x245) false)), _, rfl, O353, (GM.le.refl _)⟩
                  · rintro σ355 H356 fr357 ⟨x354, G358, rfl, O359, s360⟩
                    have h362 := tu1_inv h258
                    refine .region ?_
                    refine W.pure (v := (.int .i64 (kwrap .i64 (x245 + 1)))) rfl rfl (v_int (oo rfl ((fr357 69 rfl).trans t253)) (oo rfl rfl) rfl) ?_
                    refine W.pure (v := (.int .i64 (kwrap .i64 (x245 + 1)))) rfl rfl (v_move (oo rfl rfl)) ?_
                    refine .nil ?_
                    exact ⟨k243, Nat.lt_succ_self _, ⟨x354, kwrap .i64 (x245 + 1), _, h362, O359, (GM.le.trans s251 s360), rfl⟩⟩
                · have h363 := neg_b g254 h252
                  refine .exit ?_
                  obtain rfl := Option.some.inj h363
                  exact ⟨x244, _, rfl, O250, s251⟩
              · rintro σ365 H366 fr367 ⟨x364, G368, rfl, O369, s370⟩
                have h372 := tu1_inv h242
                refine .region ?_
                refine W.pure (v := (.int .i64 (kwrap .i64 (x229 + 1)))) rfl rfl (v_int (oo rfl ((fr367 65 rfl).trans t237)) (oo rfl rfl) rfl) ?_
                refine W.pure (v := (.int .i64 (kwrap .i64 (x229 + 1)))) rfl rfl (v_move (oo rfl rfl)) ?_
                refine .nil ?_
                exact ⟨k227, Nat.lt_succ_self _, ⟨x364, kwrap .i64 (x229 + 1), _, h372, O369, (GM.le.trans s235 s370), rfl⟩⟩
            · have h373 := neg_b g238 h236
              refine .exit ?_
              obtain rfl := Option.some.inj h373
              exact ⟨x228, _, rfl, O234, s235⟩
          · rintro σ375 H376 fr377 ⟨x374, G378, rfl, O379, s380⟩
            have h382 := tu1_inv h226
            refine .region ?_
            refine W.pure (v := (.int .i64 (kwrap .i64 (x213 + 1)))) rfl rfl (v_int (oo rfl ((fr377 61 rfl).trans t221)) (oo rfl rfl) rfl) ?_
            refine W.pure (v := (.int .i64 (kwrap .i64 (x213 + 1)))) rfl rfl (v_move (oo rfl rfl)) ?_
            refine .nil ?_
            exact ⟨k211, Nat.lt_succ_self _, ⟨x374, kwrap .i64 (x213 + 1), _, h382, O379, (GM.le.trans s219 s380), rfl⟩⟩
        · have h383 := neg_b g222 h220
          refine .exit ?_
          obtain rfl := Option.some.inj h383
          exact ⟨x212, _, rfl, O218, s219⟩
      · rintro σ385 H386 fr387 ⟨x384, G388, rfl, O389, s390⟩
        have h392 := tu1_inv h210
        refine .seq ?_
        refine .region ?_
        refine W.pure (v := v6) rfl rfl (v_move (oo rfl ((fr387 7 rfl).trans ((fr202 7 rfl).trans ((fr72 7 rfl).trans rfl))))) ?_
        refine W.pure (v := v6) rfl rfl (v_assign (oo rfl rfl)) ?_
        refine .nil ?_
        refine .ret ?_
        obtain ⟨G393, O394, s395, f396⟩ := O389.frzRows (j := 0) rfl
        replace O394 : Ow G393 H386 (L) := O394
        obtain rfl := Option.some.inj h392
        refine ret1R (P := Try.prog) (fn := Try.f14) (n := 107) (R := fun v H' => ∃ G', Ow G' H' (L) ∧ G.le G' ∧ ∃ (w0 : Value), w0 = v ∧ (rSl (rSl rB)).rep G' [w0] x384) (v1 := v6) (by rfl) (rr_tmp (by rfl) (by exact rfl)) ?_
        exact ⟨_, O394, (GM.le.trans s75 (GM.le.trans s205 (GM.le.trans s390 s395))), v6, rfl, f396⟩
def g_R_Shortest_1_l0 (K : Nat) (rec : Int → Int → Int → List (List Int) → (Int → Option Bool) → Option (List Int × Bool)) (p0 : Int) (p1 : Int) (p2 : Int) (p3 : List (List Int)) (p4 : Int → Option Bool) : Nat → Int → Option ((List Int × Bool) ⊕ Unit)
  | 0, _ => none
  | k + 1, x16 => (if (decide (x16 < (List.length p3 : Int))) = true then (bindS (((idx p3 x16).bind fun x30 => (Option.bind (((p4 x16).bind fun x49 => (if (!x49) = true then some true else ((idx x30 0).bind fun x62 => (if (x62 != p0) = true then ((idx x30 1).bind fun x69 => some (x69 != p0)) else some false))))) (tu1 fun x74 => (if x74 = true then some (.inr ()) else ((idx x30 0).bind fun x88 => ((idx x30 1).bind fun x92 => ((rec (kwrap .i64 ((kwrap .i64 (x88 + x92)) - p0)) (kwrap .i64 (p1 - 1)) p2 p3 p4).bind fun x96 => (if x96.2 = true then (if List.length [x16] + List.length x96.1 ≤ 16777216 then some (.inl (([x16] ++ x96.1), true)) else none) else some (.inr ())))))))))) (tu2 fun a141 a142 => some (.inl (a141, a142))) (tu0 (g_R_Shortest_1_l0 K rec p0 p1 p2 p3 p4 k (kwrap .i64 (x16 + 1))))) else some (.inr ()))
def g_R_Shortest_1 (K : Nat) : Nat → Int → Int → Int → List (List Int) → (Int → Option Bool) → Option (List Int × Bool)
  | 0, _, _, _, _, _ => none
  | D + 1, p0, p1, p2, p3, p4 => (if (p1 == 0) = true then some ([], (p0 == p2)) else (bindS (g_R_Shortest_1_l0 K (g_R_Shortest_1 K D) p0 p1 p2 p3 p4 K 0) (tu2 fun a152 a153 => some (a152, a153)) (tu0 (some ([], false)))))
set_option maxHeartbeats 4000000 in
theorem g_R_Shortest_1_ok (K D : Nat) : ∀ {G : GM} {H : AH} {L : List Pc} (p0 : Int) (p1 : Int) (v2 : Value) (p2 : Int) (hp2 : At G G v2 (rI .i64) p2) (v3 : Value) (p3 : List (List Int)) (hp3 : At G G v3 (rSl (rArr 2 (rI .i64))) p3) (v4 w4 : Value) (p4 : Int → Option Bool) (hp4 : PtG G v4 [w4]) (hp4f : FnOk Try.prog G w4 (fun _ vs (x : (Int)) => vs = [.int .i64 x]) (fun _ v (r : (Bool)) => v = .bool r) p4) (v5 : Value) (hp5 : PtG G v5 [.func (.func 59) #[] #[v2, v3, v4, v5]]) (O : Ow G H (L)) (r : List Int × Bool) (h : g_R_Shortest_1 K D p0 p1 p2 p3 p4 = some r),
    CR Try.prog 59 [(.int .i64 p0), (.int .i64 p1), v2, v3, v4, v5] G H (L) (fun v G' _ => ∃ (w0 : Value), v = .tuple #[w0, .bool r.2] ∧ (rSl (rI .i64)).rep G' [w0] r.1) := by
  induction D with
  | zero => intro G H L p0 p1 v2 p2 hp2 v3 p3 hp3 v4 w4 p4 hp4 hp4f v5 hp5 O r h; exact none_absurd h
  | succ D ih =>
  intro G H L p0 p1 v2 p2 hp2 v3 p3 hp3 v4 w4 p4 hp4 hp4f v5 hp5 O r h
  rw [g_R_Shortest_1] at h
  refine CR.of (calls_of_AW (n := 62) (fn := Try.f59) (R := fun v H' => ∃ G', Ow G' H' (L) ∧ G.le G' ∧ ∃ (w0 : Value), v = .tuple #[w0, .bool r.2] ∧ (rSl (rI .i64)).rep G' [w0] r.1) (by kernel_rfl) rfl rfl ?_)
  refine .seq ?_
  refine .region ?_
  refine W.pure (v := (.slice none 0 0)) rfl rfl (v_assign (oo rfl rfl)) ?_
  refine W.pure (v := (.bool false)) rfl rfl (v_assign (oo rfl rfl)) ?_
  refine .nil ?_
  refine .seq ?_
  refine .seq ?_
  refine .region ?_
  refine W.pure (v := (.int .i64 p1)) rfl rfl (v_move (oo rfl rfl)) ?_
  refine W.pure (v := (.bool (p1 == 0))) rfl rfl (v_int (oo rfl rfl) (oo rfl rfl) rfl) ?_
  refine .nil ?_
  refine .cond (b := (p1 == 0)) rfl rfl (fun g1 => ?_) (fun g1 => ?_)
  · have h2 := pos_inv g1 h
    refine .seq ?_
    refine .draw2 (M := [0, 0, 3, 0, 15]) mixed (by kernel_rfl) (by kernel_rfl) fun H3 N7 x4 F6 => ?_
    have O5 := O.ext x4
    refine D2.pure (v := (.int .i64 p0)) rfl rfl (v_move (oo rfl rfl)) ?_
    refine D2.load1' (v := (.int .i64 p2)) (r := []) rfl rfl ag3 (pt_px rfl (At.int (At.le hp2 (GM.le.refl _) O5.fro))) fa_nil ?_
    refine D2.pure (v := (.bool (p0 == p2))) rfl rfl (v_int (oo rfl rfl) (oo rfl rfl) rfl) ?_
    refine D2.pure (v := (.slice none 0 0)) rfl rfl (v_assign (oo rfl rfl)) ?_
    refine D2.pure (v := (.bool (p0 == p2))) rfl rfl (v_assign (oo rfl rfl)) ?_
    refine .nil ?_
    refine .ret ?_
    obtain rfl := Option.some.inj h2
    refine ret2R (P := Try.prog) (fn := Try.f59) (n := 62) (R := fun v H' => ∃ G', Ow G' H' (L) ∧ G.le G' ∧ ∃ (w0 : Value), v = .tuple #[w0, .bool ([], (p0 == p2)).2] ∧ (rSl (rI .i64)).rep G' [w0] ([], (p0 == p2)).1) (v1 := (.slice none 0 0)) (v2 := (.bool (p0 == p2))) (by rfl) (rr_tmp (by rfl) (by exact rfl)) (rr_tmp (by rfl) (by exact rfl)) ?_
    exact ⟨_, O5, (GM.le.refl _), (.slice none 0 0), rfl, sl_nil⟩
  · have h8 := neg_b g1 h
    refine .skip ?_
    refine .seq ?_
    refine .seq ?_
    refine .region ?_
    obtain ⟨w9, p10, f11⟩ := At.sl hp3
    replace p10 := PtG.le p10 O.fro
    refine W.load1 (v := w9) (r := []) rfl rfl ag22 (pt_px rfl p10) ?_
    refine W.pure (v := (.int .i64 (List.length p3 : Int))) rfl rfl (len_sl (oo rfl rfl) (sl_len f11) (elemT_inv el22)) ?_
    refine W.pure (v := (.int .i64 0)) rfl rfl (v_move (oo rfl rfl)) ?_
    refine .nil ?_
    obtain ⟨q12, h13, h14⟩ := bindS_inv h8
    refine AW.midT (fun σ' H' => ∃  (G' : GM), (.inr ()) = q12 ∧ Ow G' H' (L) ∧ GM.le G G') ?_ ?_
    · refine .block ?_
      refine AW.loop (α := Nat) (fun k' σ' H' => ∃ (y1 : Int) (G' : GM), g_R_Shortest_1_l0 K (g_R_Shortest_1 K D) p0 p1 p2 p3 p4 k' y1 = some q12 ∧ Ow G' H' (L) ∧ GM.le G G' ∧ σ' 21 = .int .i64 y1) (fun k' => k') K ⟨0, _, h13, O, (GM.le.refl _), rfl⟩ ?_
      rintro k15
      rintro σ17 H18 fr19 ⟨x16, G20, h23, O21, s22, t24⟩
      rcases k15 with _ | k15
      · exact none_absurd h23
      rw [g_R_Shortest_1_l0] at h23
      refine .seq ?_
      refine .region ?_
      refine W.pure (v := (.bool (decide (x16 < (List.length p3 : Int))))) rfl rfl (v_int (oo rfl t24) (oo rfl ((fr19 20 rfl).trans rfl)) rfl) ?_
      refine .nil ?_
      refine .seq ?_
      refine .cond (b := decide (x16 < (List.length p3 : Int))) rfl rfl (fun g25 => ?_) (fun g25 => ?_)
      · have h26 := pos_inv g25 h23
        refine .skip ?_
        refine .seq ?_
        obtain ⟨q27, h28, h29⟩ := bindS_inv h26
        refine AW.midT (fun σ' H' => ∃  (G' : GM), (.inr ()) = q27 ∧ Ow G' H' (L) ∧ GM.le G20 G') ?_ ?_
        · refine .block ?_
          refine .seq ?_
          refine .region ?_
          refine W.pure (v := (.int .i64 x16)) rfl rfl (v_move (oo rfl t24)) ?_
          obtain ⟨x30, i31, h32⟩ := bd_inv h28
          have j33 := idx_inv i31
          refine W.pure (v := (selem w9 (Int.toNat x16 * 2))) rfl rfl (v_idx el22 sz29 (oo rfl ((fr19 19 rfl).trans rfl)) (oo rfl t24) (sl_len (RT.mono _ s22 f11)) j33.1 j33.2.1) ?_
          obtain ⟨c34, p35, f36⟩ := (At.le (At.le (sl_idx f11 j33.2.2) s22 s22) (GM.le.refl _) O21.fro)
          refine W.loadA (cs := c34) rfl rfl ag29 sz29 (pt_px rfl p35) (RT.len _ f36) ?_
          refine W.lo rfl rfl (Lo.alloc (r := (rArr 2 (rI .i64))) (x0 := (List.replicate 2 0)) ze29 (by kernel_rfl) (fun G => ⟨by simp, List.replicate 2 [.int .i64 0], rfl, All2.replicate ((zI .i64) G) 2⟩) O21) ?_
          rintro v40 H41 ⟨b38, rfl, O37, sm39⟩
          refine W.pure (v := (.int .i64 x16)) rfl rfl (v_assign (oo rfl rfl)) ?_
          refine W.lo rfl rfl (Lo.storeVar (j := 0) (s := (rArr 2 (rI .i64))) (y0 := x30) (v := (.agg (List.toArray c34))) (o := 0) rfl ((Put.at (Put.self _) _ _)) rfl sz29 rfl (by omega) rfl f36 O37) ?_
          rintro v44 H45 ⟨O42, sm43⟩
          replace O42 : Ow G20 H45 (eVar b38 29 (rArr 2 (rI .i64)) x30 :: L) := O42
          refine .nil ?_
          refine .seq ?_
          refine .seq ?_
          obtain ⟨q46, h47, h48⟩ := bd_inv h32
          refine AW.midT (fun σ' H' => ∃ (y1 : Bool) (G' : GM), y1 = q46 ∧ Ow G' H' (eVar b38 29 (rArr 2 (rI .i64)) x30 :: L) ∧ GM.le G20 G' ∧ σ' 41 = .bool y1) ?_ ?_
          · refine .region ?_
            refine W.load1 (v := w4) (r := []) rfl rfl ag33 (pt_px ((fr19 4 rfl).trans rfl) (PtG.le (PtG.le hp4 s22) O42.fro)) ?_
            refine W.pure (v := (.int .i64 x16)) rfl rfl (v_move (oo rfl rfl)) ?_
            obtain ⟨x49, i50, h51⟩ := bd_inv h47
            refine W.lo rfl rfl (Lo.callF (x0 := x16) rfl rfl (FnOk.le hp4f s22) (mc rfl mn) rfl i50 O42) ?_
            rintro v56 H57 ⟨G52, O53, s54, sm55, rfl⟩
            refine W.pure (v := (.bool (!x49))) rfl rfl (bool_not (a := x49) (oo rfl rfl)) ?_
            refine W.pure (v := (.bool (!x49))) rfl rfl (v_move (oo rfl rfl)) ?_
            refine W.splitAt (t := 30) (b := (!x49)) rfl (fun g58 gv59 => ?_) (fun g58 gv59 => ?_)
            · have h60 := pos_inv g58 h51
              refine W.skip (gk rfl rfl gv59 rfl) rfl ?_
              refine W.skip (gk rfl rfl gv59 rfl) rfl ?_
              refine W.skip (gk rfl rfl gv59 rfl) rfl ?_
              refine W.skip (gk rfl rfl gv59 rfl) rfl ?_
              refine W.skip (gk rfl rfl gv59 rfl) rfl ?_
              refine W.skipU rfl rfl rfl rfl ?_
              refine W.skipU rfl rfl rfl rfl ?_
              refine W.skipU rfl rfl rfl rfl ?_
              refine W.skipU rfl rfl rfl rfl ?_
              refine W.skip (gk rfl rfl gv59 rfl) rfl ?_
              refine W.pure (v := (.bool true)) rfl rfl (v_pickT (oo rfl gv59) (oo rfl rfl)) ?_
              refine .nil ?_
              obtain rfl := Option.some.inj h60
              exact ⟨true, _, rfl, O53, s54, rfl⟩
            · have h61 := neg_b g58 h51
              obtain ⟨x62, i63, h64⟩ := bd_inv h61
              have j65 := idx_inv i63
              refine W.pure (v := (padd (.pointer (some ⟨b38, 0, none⟩)) (Int.toNat 0 * 1))) (gk rfl rfl gv59 rfl) rfl (v_idxAA ar29 sz3 (oo rfl rfl) (oo rfl rfl) (O53.atVar (j := 0) rfl) j65.1 j65.2.1) ?_
              refine W.load1 (v := (.int .i64 x62)) (r := []) (gk rfl rfl gv59 rfl) rfl ag3 (pt_px rfl (At.int (At.aidx (O53.atVar (j := 0) rfl) j65.2.2))) ?_
              refine W.pure (v := (.int .i64 p0)) (gk rfl rfl gv59 rfl) rfl (v_move (oo rfl ((fr19 0 rfl).trans rfl))) ?_
              refine W.pure (v := (.bool (x62 != p0))) (gk rfl rfl gv59 rfl) rfl (v_int (oo rfl rfl) (oo rfl rfl) rfl) ?_
              refine W.pure (v := (.bool (x62 != p0))) (gk rfl rfl gv59 rfl) rfl (v_move (oo rfl rfl)) ?_
              refine W.splitAt (t := 35) (b := (x62 != p0)) rfl (fun g66 gv67 => ?_) (fun g66 gv67 => ?_)
              · have h68 := pos_inv g66 h64
                obtain ⟨x69, i70, h71⟩ := bd_inv h68
                have j72 := idx_inv i70
                refine W.pure (v := (padd (.pointer (some ⟨b38, 0, none⟩)) (Int.toNat 1 * 1))) (gk rfl rfl gv67 rfl) rfl (v_idxAA ar29 sz3 (oo rfl rfl) (oo rfl rfl) (O53.atVar (j := 0) rfl) j72.1 j72.2.1) ?_
                refine W.load1 (v := (.int .i64 x69)) (r := []) (gk rfl rfl gv67 rfl) rfl ag3 (pt_px rfl (At.int (At.aidx (O53.atVar (j := 0) rfl) j72.2.2))) ?_
                refine W.pure (v := (.int .i64 p0)) (gk rfl rfl gv67 rfl) rfl (v_move (oo rfl ((fr19 0 rfl).trans rfl))) ?_
                refine W.pure (v := (.bool (x69 != p0))) (gk rfl rfl gv67 rfl) rfl (v_int (oo rfl rfl) (oo rfl rfl) rfl) ?_
                refine W.pure (v := (.bool (x69 != p0))) (gk rfl rfl gv59 rfl) rfl (v_pickT (oo rfl gv67) (oo rfl rfl)) ?_
                refine W.pure (v := (.bool (x69 != p0))) rfl rfl (v_pickF (oo rfl gv59) (oo rfl rfl)) ?_
                refine .nil ?_
                obtain rfl := Option.some.inj h71
                exact ⟨(x69 != p0), _, rfl, O53, s54, rfl⟩
              · have h73 := neg_b g66 h64
                refine W.skip (gk rfl rfl gv67 rfl) rfl ?_
                refine W.skip (gk rfl rfl gv67 rfl) rfl ?_
                refine W.skip (gk rfl rfl gv67 rfl) rfl ?_
                refine W.skip (gk rfl rfl gv67 rfl) rfl ?_
                refine W.pure (v := (.bool false)) (gk rfl rfl gv59 rfl) rfl (v_pickF (oo rfl gv67) (oo rfl rfl)) ?_
                refine W.pure (v := (.bool false)) rfl rfl (v_pickF (oo rfl gv59) (oo rfl rfl)) ?_
                refine .nil ?_
                obtain rfl := Option.some.inj h73
                exact ⟨false, _, rfl, O53, s54, rfl⟩
          · rintro σ75 H76 fr77 ⟨x74, G78, rfl, O79, s80, t82⟩
            have h83 := tu1_inv h48
            refine .cond (b := x74) rfl t82 (fun g84 => ?_) (fun g84 => ?_)
            · have h85 := pos_inv g84 h83
              refine .exit ?_
              have O86 : Ow G78 H76 (L) := O79.drop 0
              obtain rfl := Option.some.inj h85
              exact ⟨_, rfl, O86, s80⟩
            · have h87 := neg_b g84 h83
              refine .skip ?_
              refine .seq ?_
              refine .region ?_
              refine W.load1 (v := .func (.func 59) #[] #[v2, v3, v4, v5]) (r := []) rfl rfl ag95 (pt_px ((fr77 5 rfl).trans ((fr19 5 rfl).trans rfl)) (PtG.le (PtG.le hp5 (GM.le.trans s22 s80)) O79.fro)) ?_
              obtain ⟨x88, i89, h90⟩ := bd_inv h87
              have j91 := idx_inv i89
              refine W.pure (v := (padd (.pointer (some ⟨b38, 0, none⟩)) (Int.toNat 0 * 1))) rfl rfl (v_idxAA ar29 sz3 (oo rfl ((fr77 11 rfl).trans rfl)) (oo rfl rfl) (O79.atVar (j := 0) rfl) j91.1 j91.2.1) ?_
              refine W.load1 (v := (.int .i64 x88)) (r := []) rfl rfl ag3 (pt_px rfl (At.int (At.aidx (O79.atVar (j := 0) rfl) j91.2.2))) ?_
              obtain ⟨x92, i93, h94⟩ := bd_inv h90
              have j95 := idx_inv i93
              refine W.pure (v := (padd (.pointer (some ⟨b38, 0, none⟩)) (Int.toNat 1 * 1))) rfl rfl (v_idxAA ar29 sz3 (oo rfl ((fr77 11 rfl).trans rfl)) (oo rfl rfl) (O79.atVar (j := 0) rfl) j95.1 j95.2.1) ?_
              refine W.load1 (v := (.int .i64 x92)) (r := []) rfl rfl ag3 (pt_px rfl (At.int (At.aidx (O79.atVar (j := 0) rfl) j95.2.2))) ?_
              refine W.pure (v := (.int .i64 (kwrap .i64 (x88 + x92)))) rfl rfl (v_int (oo rfl rfl) (oo rfl rfl) rfl) ?_
              refine W.pure (v := (.int .i64 p0)) rfl rfl (v_move (oo rfl ((fr77 0 rfl).trans ((fr19 0 rfl).trans rfl)))) ?_
              refine W.pure (v := (.int .i64 (kwrap .i64 ((kwrap .i64 (x88 + x92)) - p0)))) rfl rfl (v_int (oo rfl rfl) (oo rfl rfl) rfl) ?_
              refine W.pure (v := (.int .i64 p1)) rfl rfl (v_move (oo rfl ((fr77 1 rfl).trans ((fr19 1 rfl).trans rfl)))) ?_
              refine W.pure (v := (.int .i64 (kwrap .i64 (p1 - 1)))) rfl rfl (v_int (oo rfl rfl) (oo rfl rfl) rfl) ?_
              obtain ⟨x96, i97, h98⟩ := bd_inv h94
              refine W.lo rfl rfl (Lo.callvP (ps := []) (ps' := []) rfl rfl (fn := Try.f59) (by kernel_rfl) rfl (mc rfl (mc rfl mn)) O79 (fun L' O' => ih (kwrap .i64 ((kwrap .i64 (x88 + x92)) - p0)) (kwrap .i64 (p1 - 1)) v2 p2 (At.le hp2 (GM.le.trans s22 s80) (GM.le.trans s22 s80)) v3 p3 (At.le hp3 (GM.le.trans s22 s80) (GM.le.trans s22 s80)) v4 w4 p4 (PtG.le hp4 (GM.le.trans s22 s80)) (FnOk.le hp4f (GM.le.trans s22 s80)) v5 (PtG.le hp5 (GM.le.trans s22 s80)) O' _ i97)) ?_
              rintro v107 H108 ⟨G99, O100, s101, sm106, ⟨w103, rfl, f104⟩⟩
              replace O100 : Ow G99 H108 (eVar b38 29 (rArr 2 (rI .i64)) x30 :: L) := O100
              refine W.pure (v := (.tuple #[w103, (.bool x96.2)])) rfl rfl (v_move (oo rfl rfl)) ?_
              refine W.pure (v := w103) rfl rfl (v_extract (oo rfl rfl) rfl) ?_
              refine W.pure (v := (.bool x96.2)) rfl rfl (v_extract (oo rfl rfl) rfl) ?_
              refine W.pure (v := w103) rfl rfl (v_assign (oo rfl rfl)) ?_
              refine W.pure (v := (.bool x96.2)) rfl rfl (v_assign (oo rfl rfl)) ?_
              refine .nil ?_
              refine .seq ?_
              refine .region ?_
              refine W.pure (v := (.bool x96.2)) rfl rfl (v_move (oo rfl rfl)) ?_
              refine .nil ?_
              refine .cond (b := x96.2) rfl rfl (fun g109 => ?_) (fun g109 => ?_)
              · have h110 := pos_inv g109 h98
                refine .seq ?_
                refine .region ?_
                refine W.pure (v := (.int .i64 x16)) rfl rfl (v_move (oo rfl ((fr77 10 rfl).trans rfl))) ?_
                refine W.lo rfl rfl (Lo.buildSlice (r := (rI .i64)) (vs := [(.int .i64 x16)]) (xs := [x16]) el24 ze3 sz3 (by kernel_rfl) rfl (qc rfl qn) rfl (.cons rfl .nil) O100) ?_
                rintro v113 H114 ⟨O111, sm112⟩
                refine W.pure (v := w103) rfl rfl (v_move (oo rfl rfl)) ?_
                obtain ⟨es116, e117, e118⟩ := src_frz f104 O111
                obtain ⟨g119, h120⟩ := gd_inv h110
                refine W.lo rfl rfl (Lo.append (j := 0) (v := v113) rfl rfl el24 ni24 ze3 sz3 by3 (by decide) (by decide) rfl e117 e118 g119 O111) ?_
                rintro v122 H123 ⟨O115, sm121⟩
                replace O115 : Ow G99 H123 (eSl v122 3 (rI .i64) ([x16] ++ x96.1) :: eVar b38 29 (rArr 2 (rI .i64)) x30 :: L) := O115
                refine W.pure (v := v122) rfl rfl (v_assign (oo rfl rfl)) ?_
                refine W.pure (v := (.bool true)) rfl rfl (v_assign (oo rfl rfl)) ?_
                refine .nil ?_
                refine .ret ?_
                obtain ⟨G124, O125, s126, f127⟩ := O115.frzSl (j := 0) rfl
                replace O125 : Ow G124 H123 (eVar b38 29 (rArr 2 (rI .i64)) x30 :: L) := O125
                have O128 : Ow G124 H123 (L) := O125.drop 0
                obtain rfl := Option.some.inj h120
                have h129 := tu2_inv (outS_l h29)
                obtain rfl := Option.some.inj h129
                have h130 := tu2_inv (outS_l h14)
                obtain rfl := Option.some.inj h130
                refine ret2R (P := Try.prog) (fn := Try.f59) (n := 62) (R := fun v H' => ∃ G', Ow G' H' (L) ∧ G.le G' ∧ ∃ (w0 : Value), v = .tuple #[w0, .bool (([x16] ++ x96.1), true).2] ∧ (rSl (rI .i64)).rep G' [w0] (([x16] ++ x96.1), true).1) (v1 := v122) (v2 := (.bool true)) (by rfl) (rr_tmp (by rfl) (by exact rfl)) (rr_tmp (by rfl) (by exact rfl)) ?_
                exact ⟨_, O128, (GM.le.trans s22 (GM.le.trans s80 (GM.le.trans s101 s126))), v122, rfl, f127⟩
              · have h131 := neg_b g109 h98
                refine .skip ?_
                have O132 : Ow G99 H108 (L) := O100.drop 0
                obtain rfl := Option.some.inj h131
                exact ⟨_, rfl, O132, (GM.le.trans s80 s101)⟩
        · rintro σ133 H134 fr135 ⟨G136, rfl, O137, s138⟩
          have h140 := tu0_inv (outS_r h29)
          refine .region ?_
          refine W.pure (v := (.int .i64 (kwrap .i64 (x16 + 1)))) rfl rfl (v_int (oo rfl ((fr135 21 rfl).trans t24)) (oo rfl rfl) rfl) ?_
          refine W.pure (v := (.int .i64 (kwrap .i64 (x16 + 1)))) rfl rfl (v_move (oo rfl rfl)) ?_
          refine .nil ?_
          exact ⟨k15, Nat.lt_succ_self _, ⟨kwrap .i64 (x16 + 1), _, h140, O137, (GM.le.trans s22 s138), rfl⟩⟩
      · have h143 := neg_b g25 h23
        refine .exit ?_
        obtain rfl := Option.some.inj h143
        exact ⟨_, rfl, O21, s22⟩
    · rintro σ144 H145 fr146 ⟨G147, rfl, O148, s149⟩
      have h151 := tu0_inv (outS_r h14)
      refine .seq ?_
      refine .region ?_
      refine W.pure (v := (.slice none 0 0)) rfl rfl (v_assign (oo rfl rfl)) ?_
      refine W.pure (v := (.bool false)) rfl rfl (v_assign (oo rfl rfl)) ?_
      refine .nil ?_
      refine .ret ?_
      obtain rfl := Option.some.inj h151
      refine ret2R (P := Try.prog) (fn := Try.f59) (n := 62) (R := fun v H' => ∃ G', Ow G' H' (L) ∧ G.le G' ∧ ∃ (w0 : Value), v = .tuple #[w0, .bool ([], false).2] ∧ (rSl (rI .i64)).rep G' [w0] ([], false).1) (v1 := (.slice none 0 0)) (v2 := (.bool false)) (by rfl) (rr_tmp (by rfl) (by exact rfl)) (rr_tmp (by rfl) (by exact rfl)) ?_
      exact ⟨_, O148, s149, (.slice none 0 0), rfl, sl_nil⟩
def g_R_Shortest_l0 (K : Nat) (p0 : Int) (p1 : List (List Int)) (p2 : Int) (p3 : Int) (p4 : Int → Option Bool) : Nat → Int → Option ((List Int × Bool) ⊕ Unit)
  | 0, _ => none
  | k + 1, x87 => (if (decide (x87 < p0)) = true then ((g_R_Shortest_1 K K p2 x87 p3 p1 p4).bind fun x98 => (if x98.2 = true then some (.inl (x98.1, true)) else g_R_Shortest_l0 K p0 p1 p2 p3 p4 k (kwrap .i64 (x87 + 1)))) else some (.inr ()))
def g_R_Shortest (K : Nat) (p0 : Int) (p1 : List (List Int)) (p2 : Int) (p3 : Int) (p4 : Int → Option Bool) : Option (List Int × Bool) := ((g_R_Joined K p0 p1 p4).bind fun x26 => ((idx x26 p2).bind fun x39 => ((idx x39 p3).bind fun x46 => (if (!x46) = true then some ([], false) else (bindS (g_R_Shortest_l0 K p0 p1 p2 p3 p4 K 0) (tu2 fun a124 a125 => some (a124, a125)) (tu0 (some ([], false))))))))
set_option maxHeartbeats 4000000 in
theorem g_R_Shortest_ok (K : Nat) {G : GM} {H : AH} {L : List Pc} (p0 : Int) (v1 : Value) (p1 : List (List Int)) (hp1 : (rSl (rArr 2 (rI .i64))).rep G [v1] p1) (p2 : Int) (p3 : Int) (v4 : Value) (p4 : Int → Option Bool) (hp4 : FnOk Try.prog G v4 (fun _ vs (x : (Int)) => vs = [.int .i64 x]) (fun _ v (r : (Bool)) => v = .bool r) p4) (O : Ow G H (L)) (r : List Int × Bool) (h : g_R_Shortest K p0 p1 p2 p3 p4 = some r) :
    CR Try.prog 20 [(.int .i64 p0), v1, (.int .i64 p2), (.int .i64 p3), v4] G H (L) (fun v G' _ => ∃ (w0 : Value), v = .tuple #[w0, .bool r.2] ∧ (rSl (rI .i64)).rep G' [w0] r.1) := by
  unfold g_R_Shortest at h
  refine CR.of (calls_of_AW (n := 42) (fn := Try.f20) (R := fun v H' => ∃ G', Ow G' H' (L) ∧ G.le G' ∧ ∃ (w0 : Value), v = .tuple #[w0, .bool r.2] ∧ (rSl (rI .i64)).rep G' [w0] r.1) (by kernel_rfl) rfl rfl ?_)
  refine .seq ?_
  refine .region ?_
  refine W.lo rfl rfl (Lo.box (r := (rSl (rArr 2 (rI .i64)))) (x0 := p1) (v := v1) rfl rfl (sl_cells hp1) O) ?_
  rintro v4 H5 ⟨b2, rfl, O1, sm3⟩
  refine W.lo rfl rfl (Lo.box (r := (rI .i64)) (x0 := p3) (v := (.int .i64 p3)) rfl rfl rfl O1) ?_
  rintro v9 H10 ⟨b7, rfl, O6, sm8⟩
  refine W.lo rfl rfl (Lo.box (r := rV) (x0 := v4) (v := v4) rfl rfl (fn_ok hp4) O6) ?_
  rintro v16 H17 ⟨b13, rfl, O14, sm15⟩
  refine W.pure (v := (.slice none 0 0)) rfl rfl (v_assign (oo rfl rfl)) ?_
  refine W.pure (v := (.bool false)) rfl rfl (v_assign (oo rfl rfl)) ?_
  refine .nil ?_
  refine .seq ?_
  refine .seq ?_
  refine .draw2 (M := [0, 0, 0, 7, 0, 31, 63, 0, 255, 511, 1023]) mixed (by kernel_rfl) (by kernel_rfl) fun H18 N22 x19 F21 => ?_
  have O20 := O14.ext x19
  refine D2.pure (v := (.int .i64 p0)) rfl rfl (v_move (oo rfl rfl)) ?_
  obtain ⟨w23, p24, f25⟩ := At.sl (O20.atVar (j := 2) rfl)
  refine D2.load1' (v := w23) (r := []) rfl rfl ag22 (pt_px rfl p24) fa_nil ?_
  refine D2.load1' (v := v4) (r := []) rfl rfl ag33 (pt_px rfl (At.raw (O20.atVar (j := 0) rfl))) fa_nil ?_
  obtain ⟨x26, i27, h28⟩ := bd_inv h
  refine D2.lo rfl rfl (Lo.callP (ps := []) (ps' := []) rfl (fn := Try.f14) (by kernel_rfl) rfl (mc rfl (mc rfl (mc rfl mn))) O20 (fun L' O' => g_R_Joined_ok K p0 w23 p1 f25 v4 p4 hp4 O' _ i27)) ?_ fa_nil ?_ ?_
  · rintro v37 H38 ⟨G29, O30, s31, sm36, ⟨w33, rfl, f34⟩⟩; exact (faR1 (.inl (by decide)) (faR1 (.inl (by decide)) fa_nil))
  · rintro v37 H38 ⟨G29, O30, s31, sm36, ⟨w33, rfl, f34⟩⟩; exact fa_nil
  rintro v37 H38 ⟨G29, O30, s31, sm36, ⟨w33, rfl, f34⟩⟩
  replace O30 : Ow G29 H38 (eVar b13 33 rV v4 :: eVar b7 3 (rI .i64) p3 :: eVar b2 22 (rSl (rArr 2 (rI .i64))) p1 :: L) := O30
  refine D2.pure (v := (.int .i64 p2)) rfl rfl (v_move (oo rfl rfl)) ?_
  obtain ⟨x39, i40, h41⟩ := bd_inv h28
  have j42 := idx_inv i40
  refine D2.pure (v := (selem w33 (Int.toNat p2 * 1))) rfl rfl (v_idx el31 sz30 (oo rfl rfl) (oo rfl rfl) (sl_len f34) j42.1 j42.2.1) ?_
  obtain ⟨w43, p44, f45⟩ := At.sl (sl_idx f34 j42.2.2)
  replace p44 := PtG.le p44 O30.fro
  refine D2.load1' (v := w43) (r := []) rfl rfl ag30 (pt_px rfl p44) (faQ_bit (by decide) fa_nil) ?_
  refine D2.load1' (v := (.int .i64 p3)) (r := []) rfl rfl ag3 (pt_px rfl (At.int (O30.atVar (j := 1) rfl))) (faQ_eq (sm36 _ (Or.inr ⟨1, _, rfl, List.mem_singleton.2 rfl⟩)) fa_nil) ?_
  obtain ⟨x46, i47, h48⟩ := bd_inv h41
  have j49 := idx_inv i47
  refine D2.pure (v := (selem w43 (Int.toNat p3 * 1))) rfl rfl (v_idx el30 sz4 (oo rfl rfl) (oo rfl rfl) (sl_len f45) j49.1 j49.2.1) ?_
  refine D2.load1' (v := (.bool x46)) (r := []) rfl rfl ag4 (pt_px rfl (At.bool (At.le (sl_idx f45 j49.2.2) (GM.le.refl _) O30.fro))) (faQ_bit (by decide) fa_nil) ?_
  refine D2.pure (v := (.bool (!x46))) rfl rfl (bool_not (a := x46) (oo rfl rfl)) ?_
  refine .nil ?_
  refine .cond (b := (!x46)) rfl rfl (fun g50 => ?_) (fun g50 => ?_)
  · have h51 := pos_inv g50 h48
    refine .seq ?_
    refine .region ?_
    refine W.pure (v := (.slice none 0 0)) rfl rfl (v_assign (oo rfl rfl)) ?_
    refine W.pure (v := (.bool false)) rfl rfl (v_assign (oo rfl rfl)) ?_
    refine .nil ?_
    refine .ret ?_
    have O52 : Ow G29 H38 (eVar b7 3 (rI .i64) p3 :: eVar b2 22 (rSl (rArr 2 (rI .i64))) p1 :: L) := O30.drop 0
    have O53 : Ow G29 H38 (eVar b2 22 (rSl (rArr 2 (rI .i64))) p1 :: L) := O52.drop 0
    have O54 : Ow G29 H38 (L) := O53.drop 0
    obtain rfl := Option.some.inj h51
    refine ret2R (P := Try.prog) (fn := Try.f20) (n := 42) (R := fun v H' => ∃ G', Ow G' H' (L) ∧ G.le G' ∧ ∃ (w0 : Value), v = .tuple #[w0, .bool ([], false).2] ∧ (rSl (rI .i64)).rep G' [w0] ([], false).1) (v1 := (.slice none 0 0)) (v2 := (.bool false)) (by rfl) (rr_tmp (by rfl) (by exact rfl)) (rr_tmp (by rfl) (by exact rfl)) ?_
    exact ⟨_, O54, s31, (.slice none 0 0), rfl, sl_nil⟩
  · have h55 := neg_b g50 h48
    refine .skip ?_
    refine .seq ?_
    refine .region ?_
    refine W.lo rfl rfl (Lo.alloc (r := rV) (x0 := .nilFunc) ze95 (by kernel_rfl) (fun _ => ⟨rfl, rfl⟩) O30) ?_
    rintro v61 H62 ⟨b58, rfl, O59, sm60⟩
    refine .nil ?_
    refine .seq ?_
    refine .region ?_
    refine W.pure (v := (.func (.func 59) #[] #[(.pointer (some ⟨b7, 0, none⟩)), (.pointer (some ⟨b2, 0, none⟩)), (.pointer (some ⟨b13, 0, none⟩)), (.pointer (some ⟨b58, 0, none⟩))])) rfl rfl (v_makeFunc (opndL_ooL rfl mn) (opndL_ooL rfl (mc rfl (mc rfl (mc rfl (mc rfl mn)))))) ?_
    refine W.lo rfl rfl (Lo.storeVar (j := 0) (s := rV) (y0 := (.func (.func 59) #[] #[(.pointer (some ⟨b7, 0, none⟩)), (.pointer (some ⟨b2, 0, none⟩)), (.pointer (some ⟨b13, 0, none⟩)), (.pointer (some ⟨b58, 0, none⟩))])) (v := (.func (.func 59) #[] #[(.pointer (some ⟨b7, 0, none⟩)), (.pointer (some ⟨b2, 0, none⟩)), (.pointer (some ⟨b13, 0, none⟩)), (.pointer (some ⟨b58, 0, none⟩))])) (o := 0) rfl (Put.at (Put.self _) _ _) rfl sz95 rfl (by omega) rfl ⟨rfl, rfl⟩ O59) ?_
    rintro v65 H66 ⟨O63, sm64⟩
    replace O63 : Ow G29 H66 (eVar b58 95 rV (.func (.func 59) #[] #[(.pointer (some ⟨b7, 0, none⟩)), (.pointer (some ⟨b2, 0, none⟩)), (.pointer (some ⟨b13, 0, none⟩)), (.pointer (some ⟨b58, 0, none⟩))]) :: eVar b13 33 rV v4 :: eVar b7 3 (rI .i64) p3 :: eVar b2 22 (rSl (rArr 2 (rI .i64))) p1 :: L) := O63
    refine .nil ?_
    refine .seq ?_
    refine .seq ?_
    refine .region ?_
    refine W.pure (v := (.int .i64 p0)) rfl rfl (v_move (oo rfl rfl)) ?_
    refine W.pure (v := (.int .i64 0)) rfl rfl (v_move (oo rfl rfl)) ?_
    refine .nil ?_
    obtain ⟨G67, O68, s69, f70⟩ := O63.frzVar (j := 3) rfl
    replace O68 : Ow G67 H66 (eVar b58 95 rV (.func (.func 59) #[] #[(.pointer (some ⟨b7, 0, none⟩)), (.pointer (some ⟨b2, 0, none⟩)), (.pointer (some ⟨b13, 0, none⟩)), (.pointer (some ⟨b58, 0, none⟩))]) :: eVar b13 33 rV v4 :: eVar b7 3 (rI .i64) p3 :: L) := O68
    obtain ⟨G71, O72, s73, f74⟩ := O68.frzVar (j := 1) rfl
    replace O72 : Ow G71 H66 (eVar b58 95 rV (.func (.func 59) #[] #[(.pointer (some ⟨b7, 0, none⟩)), (.pointer (some ⟨b2, 0, none⟩)), (.pointer (some ⟨b13, 0, none⟩)), (.pointer (some ⟨b58, 0, none⟩))]) :: eVar b7 3 (rI .i64) p3 :: L) := O72
    obtain ⟨G75, O76, s77, f78⟩ := O72.frzVar (j := 0) rfl
    replace O76 : Ow G75 H66 (eVar b7 3 (rI .i64) p3 :: L) := O76
    obtain ⟨G79, O80, s81, f82⟩ := O76.frzVar (j := 0) rfl
    replace O80 : Ow G79 H66 (L) := O80
    obtain ⟨q83, h84, h85⟩ := bindS_inv h55
    refine AW.midT (fun σ' H' => ∃  (G' : GM), (.inr ()) = q83 ∧ Ow G' H' (L) ∧ GM.le G79 G') ?_ ?_
    · refine .block ?_
      refine AW.loop (α := Nat) (fun k' σ' H' => ∃ (y1 : Int) (G' : GM), g_R_Shortest_l0 K p0 p1 p2 p3 p4 k' y1 = some q83 ∧ Ow G' H' (L) ∧ GM.le G79 G' ∧ σ' 29 = .int .i64 y1) (fun k' => k') K ⟨0, _, h84, O80, (GM.le.refl _), rfl⟩ ?_
      rintro k86
      rintro σ88 H89 fr90 ⟨x87, G91, h94, O92, s93, t95⟩
      rcases k86 with _ | k86
      · exact none_absurd h94
      rw [g_R_Shortest_l0] at h94
      refine .seq ?_
      refine .region ?_
      refine W.pure (v := (.bool (decide (x87 < p0)))) rfl rfl (v_int (oo rfl t95) (oo rfl ((fr90 28 rfl).trans rfl)) rfl) ?_
      refine .nil ?_
      refine .seq ?_
      refine .cond (b := decide (x87 < p0)) rfl rfl (fun g96 => ?_) (fun g96 => ?_)
      · have h97 := pos_inv g96 h94
        refine .skip ?_
        refine .seq ?_
        refine .block ?_
        refine .seq ?_
        refine .region ?_
        refine W.pure (v := (.int .i64 x87)) rfl rfl (v_move (oo rfl t95)) ?_
        refine W.pure (v := (.int .i64 x87)) rfl rfl (v_assign (oo rfl rfl)) ?_
        refine .nil ?_
        refine .seq ?_
        refine .region ?_
        refine W.load1 (v := (.func (.func 59) #[] #[(.pointer (some ⟨b7, 0, none⟩)), (.pointer (some ⟨b2, 0, none⟩)), (.pointer (some ⟨b13, 0, none⟩)), (.pointer (some ⟨b58, 0, none⟩))])) (r := []) rfl rfl ag95 (pt_px ((fr90 12 rfl).trans rfl) (PtG.le (PtG.le (At.raw f78) (GM.le.trans s81 s93)) O92.fro)) ?_
        refine W.pure (v := (.int .i64 p2)) rfl rfl (v_move (oo rfl ((fr90 2 rfl).trans rfl))) ?_
        refine W.pure (v := (.int .i64 x87)) rfl rfl (v_move (oo rfl rfl)) ?_
        obtain ⟨x98, i99, h100⟩ := bd_inv h97
        refine W.lo rfl rfl (Lo.callvP (ps := []) (ps' := []) rfl rfl (fn := Try.f59) (by kernel_rfl) rfl (mc rfl (mc rfl mn)) O92 (fun L' O' => g_R_Shortest_1_ok K K p2 x87 (.pointer (some ⟨b7, 0, none⟩)) p3 (At.le f82 s93 s93) (.pointer (some ⟨b2, 0, none⟩)) p1 (At.le f70 (GM.le.trans s73 (GM.le.trans s77 (GM.le.trans s81 s93))) (GM.le.trans s73 (GM.le.trans s77 (GM.le.trans s81 s93)))) (.pointer (some ⟨b13, 0, none⟩)) v4 p4 (PtG.le (At.raw f74) (GM.le.trans s77 (GM.le.trans s81 s93))) (FnOk.le hp4 (GM.le.trans s31 (GM.le.trans s69 (GM.le.trans s73 (GM.le.trans s77 (GM.le.trans s81 s93)))))) (.pointer (some ⟨b58, 0, none⟩)) (PtG.le (At.raw f78) (GM.le.trans s81 s93)) O' _ i99)) ?_
        rintro v109 H110 ⟨G101, O102, s103, sm108, ⟨w105, rfl, f106⟩⟩
        replace O102 : Ow G101 H110 (L) := O102
        refine W.pure (v := (.tuple #[w105, (.bool x98.2)])) rfl rfl (v_move (oo rfl rfl)) ?_
        refine W.pure (v := w105) rfl rfl (v_extract (oo rfl rfl) rfl) ?_
        refine W.pure (v := (.bool x98.2)) rfl rfl (v_extract (oo rfl rfl) rfl) ?_
        refine W.pure (v := w105) rfl rfl (v_assign (oo rfl rfl)) ?_
        refine W.pure (v := (.bool x98.2)) rfl rfl (v_assign (oo rfl rfl)) ?_
        refine .nil ?_
        refine .seq ?_
        refine .region ?_
        refine W.pure (v := (.bool x98.2)) rfl rfl (v_move (oo rfl rfl)) ?_
        refine .nil ?_
        refine .cond (b := x98.2) rfl rfl (fun g111 => ?_) (fun g111 => ?_)
        · have h112 := pos_inv g111 h100
          refine .seq ?_
          refine .region ?_
          refine W.pure (v := w105) rfl rfl (v_move (oo rfl rfl)) ?_
          refine W.pure (v := w105) rfl rfl (v_assign (oo rfl rfl)) ?_
          refine W.pure (v := (.bool true)) rfl rfl (v_assign (oo rfl rfl)) ?_
          refine .nil ?_
          refine .ret ?_
          obtain rfl := Option.some.inj h112
          have h113 := tu2_inv (outS_l h85)
          obtain rfl := Option.some.inj h113
          refine ret2R (P := Try.prog) (fn := Try.f20) (n := 42) (R := fun v H' => ∃ G', Ow G' H' (L) ∧ G.le G' ∧ ∃ (w0 : Value), v = .tuple #[w0, .bool (x98.1, true).2] ∧ (rSl (rI .i64)).rep G' [w0] (x98.1, true).1) (v1 := w105) (v2 := (.bool true)) (by rfl) (rr_tmp (by rfl) (by exact rfl)) (rr_tmp (by rfl) (by exact rfl)) ?_
          exact ⟨_, O102, (GM.le.trans s31 (GM.le.trans s69 (GM.le.trans s73 (GM.le.trans s77 (GM.le.trans s81 (GM.le.trans s93 s103)))))), w105, rfl, f106⟩
        · have h114 := neg_b g111 h100
          refine .skip ?_
          refine .region ?_
          refine W.pure (v := (.int .i64 (kwrap .i64 (x87 + 1)))) rfl rfl (v_int (oo rfl t95) (oo rfl rfl) rfl) ?_
          refine W.pure (v := (.int .i64 (kwrap .i64 (x87 + 1)))) rfl rfl (v_move (oo rfl rfl)) ?_
          refine .nil ?_
          exact ⟨k86, Nat.lt_succ_self _, ⟨kwrap .i64 (x87 + 1), _, h114, O102, (GM.le.trans s93 s103), rfl⟩⟩
      · have h115 := neg_b g96 h94
        refine .exit ?_
        obtain rfl := Option.some.inj h115
        exact ⟨_, rfl, O92, s93⟩
    · rintro σ116 H117 fr118 ⟨G119, rfl, O120, s121⟩
      have h123 := tu0_inv (outS_r h85)
      refine .seq ?_
      refine .region ?_
      refine W.pure (v := (.slice none 0 0)) rfl rfl (v_assign (oo rfl rfl)) ?_
      refine W.pure (v := (.bool false)) rfl rfl (v_assign (oo rfl rfl)) ?_
      refine .nil ?_
      refine .ret ?_
      obtain rfl := Option.some.inj h123
      refine ret2R (P := Try.prog) (fn := Try.f20) (n := 42) (R := fun v H' => ∃ G', Ow G' H' (L) ∧ G.le G' ∧ ∃ (w0 : Value), v = .tuple #[w0, .bool ([], false).2] ∧ (rSl (rI .i64)).rep G' [w0] ([], false).1) (v1 := (.slice none 0 0)) (v2 := (.bool false)) (by rfl) (rr_tmp (by rfl) (by exact rfl)) (rr_tmp (by rfl) (by exact rfl)) ?_
      exact ⟨_, O120, (GM.le.trans s31 (GM.le.trans s69 (GM.le.trans s73 (GM.le.trans s77 (GM.le.trans s81 s121))))), (.slice none 0 0), rfl, sl_nil⟩
def g_law_yes (K : Nat) (p0 : Int) : Option Bool := some true
set_option maxHeartbeats 4000000 in
theorem g_law_yes_ok (K : Nat) {G : GM} {H : AH} {L : List Pc} (p0 : Int) (O : Ow G H (L)) (r : Bool) (h : g_law_yes K p0 = some r) :
    CR Try.prog 18 [(.int .i64 p0)] G H (L) (fun v G' _ => v = .bool r) := by
  unfold g_law_yes at h
  refine CR.of (calls_of_AW (n := 3) (fn := Try.f18) (R := fun v H' => ∃ G', Ow G' H' (L) ∧ G.le G' ∧ v = .bool r) (by kernel_rfl) rfl rfl ?_)
  refine .seq ?_
  refine .region ?_
  refine W.pure (v := (.bool false)) rfl rfl (v_assign (oo rfl rfl)) ?_
  refine .nil ?_
  refine .seq ?_
  refine .region ?_
  refine W.pure (v := (.bool true)) rfl rfl (v_assign (oo rfl rfl)) ?_
  refine .nil ?_
  refine .ret ?_
  obtain rfl := Option.some.inj h
  refine ret1R (P := Try.prog) (fn := Try.f18) (n := 3) (R := fun v H' => ∃ G', Ow G' H' (L) ∧ G.le G' ∧ v = .bool true) (v1 := (.bool true)) (by rfl) (rr_tmp (by rfl) (by exact rfl)) ?_
  exact ⟨_, O, (GM.le.refl _), rfl⟩
def g_slices_Equal_int_int_l0 (K : Nat) (p0 : List Int) (p1 : List Int) : Nat → Int → Option (Bool ⊕ Unit)
  | 0, _ => none
  | k + 1, x8 => (if (decide (x8 < (List.length p0 : Int))) = true then ((idx p0 x8).bind fun x24 => ((idx p1 x8).bind fun x28 => (if (x24 != x28) = true then some (.inl false) else g_slices_Equal_int_int_l0 K p0 p1 k (kwrap .i64 (x8 + 1))))) else some (.inr ()))
def g_slices_Equal_int_int (K : Nat) (p0 : List Int) (p1 : List Int) : Option Bool := (if ((List.length p0 : Int) != (List.length p1 : Int)) = true then some false else (bindS (g_slices_Equal_int_int_l0 K p0 p1 K 0) (tu1 fun a45 => some a45) (tu0 (some true))))
set_option maxHeartbeats 4000000 in
theorem g_slices_Equal_int_int_ok (K : Nat) {G : GM} {H : AH} {L : List Pc} (v0 : Value) (p0 : List Int) (hp0 : (rSl (rI .i64)).rep G [v0] p0) (v1 : Value) (p1 : List Int) (hp1 : (rSl (rI .i64)).rep G [v1] p1) (O : Ow G H (L)) (r : Bool) (h : g_slices_Equal_int_int K p0 p1 = some r) :
    CR Try.prog 16 [v0, v1] G H (L) (fun v G' _ => v = .bool r) := by
  unfold g_slices_Equal_int_int at h
  refine CR.of (calls_of_AW (n := 26) (fn := Try.f16) (R := fun v H' => ∃ G', Ow G' H' (L) ∧ G.le G' ∧ v = .bool r) (by kernel_rfl) rfl rfl ?_)
  refine .seq ?_
  refine .region ?_
  refine W.pure (v := (.bool false)) rfl rfl (v_assign (oo rfl rfl)) ?_
  refine .nil ?_
  refine .seq ?_
  refine .seq ?_
  refine .region ?_
  refine W.pure (v := v0) rfl rfl (v_move (oo rfl rfl)) ?_
  refine W.pure (v := (.int .i64 (List.length p0 : Int))) rfl rfl (len_sl (oo rfl rfl) (sl_len hp0) (elemT_inv el24)) ?_
  refine W.pure (v := v1) rfl rfl (v_move (oo rfl rfl)) ?_
  refine W.pure (v := (.int .i64 (List.length p1 : Int))) rfl rfl (len_sl (oo rfl rfl) (sl_len hp1) (elemT_inv el24)) ?_
  refine W.pure (v := (.bool ((List.length p0 : Int) != (List.length p1 : Int)))) rfl rfl (v_int (oo rfl rfl) (oo rfl rfl) rfl) ?_
  refine .nil ?_
  refine .cond (b := ((List.length p0 : Int) != (List.length p1 : Int))) rfl rfl (fun g1 => ?_) (fun g1 => ?_)
  · have h2 := pos_inv g1 h
    refine .seq ?_
    refine .region ?_
    refine W.pure (v := (.bool false)) rfl rfl (v_assign (oo rfl rfl)) ?_
    refine .nil ?_
    refine .ret ?_
    obtain rfl := Option.some.inj h2
    refine ret1R (P := Try.prog) (fn := Try.f16) (n := 26) (R := fun v H' => ∃ G', Ow G' H' (L) ∧ G.le G' ∧ v = .bool false) (v1 := (.bool false)) (by rfl) (rr_tmp (by rfl) (by exact rfl)) ?_
    exact ⟨_, O, (GM.le.refl _), rfl⟩
  · have h3 := neg_b g1 h
    refine .skip ?_
    refine .seq ?_
    refine .seq ?_
    refine .region ?_
    refine W.pure (v := v0) rfl rfl (v_move (oo rfl rfl)) ?_
    refine W.pure (v := (.int .i64 (List.length p0 : Int))) rfl rfl (len_sl (oo rfl rfl) (sl_len hp0) (elemT_inv el24)) ?_
    refine W.pure (v := (.int .i64 0)) rfl rfl (v_move (oo rfl rfl)) ?_
    refine .nil ?_
    obtain ⟨q4, h5, h6⟩ := bindS_inv h3
    refine AW.midT (fun σ' H' => ∃  (G' : GM), (.inr ()) = q4 ∧ Ow G' H' (L) ∧ GM.le G G') ?_ ?_
    · refine .block ?_
      refine AW.loop (α := Nat) (fun k' σ' H' => ∃ (y1 : Int) (G' : GM), g_slices_Equal_int_int_l0 K p0 p1 k' y1 = some q4 ∧ Ow G' H' (L) ∧ GM.le G G' ∧ σ' 13 = .int .i64 y1) (fun k' => k') K ⟨0, _, h5, O, (GM.le.refl _), rfl⟩ ?_
      rintro k7
      rintro σ9 H10 fr11 ⟨x8, G12, h15, O13, s14, t16⟩
      rcases k7 with _ | k7
      · exact none_absurd h15
      rw [g_slices_Equal_int_int_l0] at h15
      refine .seq ?_
      refine .region ?_
      refine W.pure (v := (.bool (decide (x8 < (List.length p0 : Int))))) rfl rfl (v_int (oo rfl t16) (oo rfl ((fr11 12 rfl).trans rfl)) rfl) ?_
      refine .nil ?_
      refine .seq ?_
      refine .cond (b := decide (x8 < (List.length p0 : Int))) rfl rfl (fun g17 => ?_) (fun g17 => ?_)
      · have h18 := pos_inv g17 h15
        refine .skip ?_
        refine .seq ?_
        refine .block ?_
        refine .seq ?_
        refine .region ?_
        refine W.pure (v := (.int .i64 x8)) rfl rfl (v_move (oo rfl t16)) ?_
        refine W.pure (v := (.int .i64 x8)) rfl rfl (v_assign (oo rfl rfl)) ?_
        refine .nil ?_
        refine .seq ?_
        refine .draw2 (M := [0, 0, 3, 7, 0, 0, 48, 112, 255]) mixed (by kernel_rfl) (by kernel_rfl) fun H19 N23 x20 F22 => ?_
        have O21 := O13.ext x20
        refine D2.pure (v := v0) rfl rfl (v_move (oo rfl ((fr11 0 rfl).trans rfl))) ?_
        refine D2.pure (v := (.int .i64 x8)) rfl rfl (v_move (oo rfl rfl)) ?_
        obtain ⟨x24, i25, h26⟩ := bd_inv h18
        have j27 := idx_inv i25
        refine D2.pure (v := (selem v0 (Int.toNat x8 * 1))) rfl rfl (v_idx el24 sz3 (oo rfl rfl) (oo rfl rfl) (sl_len (RT.mono _ s14 hp0)) j27.1 j27.2.1) ?_
        refine D2.load1' (v := (.int .i64 x24)) (r := []) rfl rfl ag3 (pt_px rfl (At.int (At.le (At.le (sl_idx hp0 j27.2.2) s14 s14) (GM.le.refl _) O21.fro))) fa_nil ?_
        refine D2.pure (v := v1) rfl rfl (v_move (oo rfl ((fr11 1 rfl).trans rfl))) ?_
        refine D2.pure (v := (.int .i64 x8)) rfl rfl (v_move (oo rfl rfl)) ?_
        obtain ⟨x28, i29, h30⟩ := bd_inv h26
        have j31 := idx_inv i29
        refine D2.pure (v := (selem v1 (Int.toNat x8 * 1))) rfl rfl (v_idx el24 sz3 (oo rfl rfl) (oo rfl rfl) (sl_len (RT.mono _ s14 hp1)) j31.1 j31.2.1) ?_
        refine D2.load1' (v := (.int .i64 x28)) (r := []) rfl rfl ag3 (pt_px rfl (At.int (At.le (At.le (sl_idx hp1 j31.2.2) s14 s14) (GM.le.refl _) O21.fro))) fa_nil ?_
        refine D2.pure (v := (.bool (x24 != x28))) rfl rfl (v_int (oo rfl rfl) (oo rfl rfl) rfl) ?_
        refine .nil ?_
        refine .cond (b := (x24 != x28)) rfl rfl (fun g32 => ?_) (fun g32 => ?_)
        · have h33 := pos_inv g32 h30
          refine .seq ?_
          refine .region ?_
          refine W.pure (v := (.bool false)) rfl rfl (v_assign (oo rfl rfl)) ?_
          refine .nil ?_
          refine .ret ?_
          obtain rfl := Option.some.inj h33
          have h34 := tu1_inv (outS_l h6)
          obtain rfl := Option.some.inj h34
          refine ret1R (P := Try.prog) (fn := Try.f16) (n := 26) (R := fun v H' => ∃ G', Ow G' H' (L) ∧ G.le G' ∧ v = .bool false) (v1 := (.bool false)) (by rfl) (rr_tmp (by rfl) (by exact rfl)) ?_
          exact ⟨_, O21, s14, rfl⟩
        · have h35 := neg_b g32 h30
          refine .skip ?_
          refine .region ?_
          refine W.pure (v := (.int .i64 (kwrap .i64 (x8 + 1)))) rfl rfl (v_int (oo rfl t16) (oo rfl rfl) rfl) ?_
          refine W.pure (v := (.int .i64 (kwrap .i64 (x8 + 1)))) rfl rfl (v_move (oo rfl rfl)) ?_
          refine .nil ?_
          exact ⟨k7, Nat.lt_succ_self _, ⟨kwrap .i64 (x8 + 1), _, h35, O21, s14, rfl⟩⟩
      · have h36 := neg_b g17 h15
        refine .exit ?_
        obtain rfl := Option.some.inj h36
        exact ⟨_, rfl, O13, s14⟩
    · rintro σ37 H38 fr39 ⟨G40, rfl, O41, s42⟩
      have h44 := tu0_inv (outS_r h6)
      refine .seq ?_
      refine .region ?_
      refine W.pure (v := (.bool true)) rfl rfl (v_assign (oo rfl rfl)) ?_
      refine .nil ?_
      refine .ret ?_
      obtain rfl := Option.some.inj h44
      refine ret1R (P := Try.prog) (fn := Try.f16) (n := 26) (R := fun v H' => ∃ G', Ow G' H' (L) ∧ G.le G' ∧ v = .bool true) (v1 := (.bool true)) (by rfl) (rr_tmp (by rfl) (by exact rfl)) ?_
      exact ⟨_, O41, s42, rfl⟩
def g_law_GraphPaths (K : Nat) (p0 : Int) (p1 : List (List Int)) (p2 : Int) (p3 : Int) : Option Bool := ((g_law_graphFact K ).bind fun x1 => (if (!x1) = true then some false else ((g_graph_Path K p0 p1 p2 p3).bind fun x15 => ((g_R_GraphError K p0 p1).bind fun x28 => (Option.bind ((if (x28 == 0) = true then (if (decide (p2 < 0)) = true then some true else (if (decide (p2 ≥ p0)) = true then some true else (if (decide (p3 < 0)) = true then some true else some (decide (p3 ≥ p0))))) else some false)) (tu1 fun x58 => (Option.bind ((if x58 = true then some 4 else some x28)) (tu1 fun x74 => (if (x74 != 0) = true then (Option.bind ((if (x15.2 == x74) = true then some ((List.length x15.1 : Int) == 0) else some false)) (tu1 fun x93 => some x93)) else (Option.bind ((if (decide (p0 > 7)) = true then some true else some (decide ((List.length p1 : Int) > 9)))) (tu1 fun x112 => (if x112 = true then some true else ((g_R_Shortest K p0 p1 p2 p3 (fun x => g_law_yes K x)).bind fun x126 => (if (!x126.2) = true then (Option.bind ((if (x15.2 == 8) = true then some ((List.length x15.1 : Int) == 0) else some false)) (tu1 fun x148 => some x148)) else (Option.bind ((if (x15.2 == 0) = true then ((g_slices_Equal_int_int K x15.1 x126.1).bind fun x166 => some x166) else some false)) (tu1 fun x178 => some x178))))))))))))))))
set_option maxHeartbeats 4000000 in
theorem g_law_GraphPaths_ok (K : Nat) {G : GM} {H : AH} {L : List Pc} (p0 : Int) (v1 : Value) (p1 : List (List Int)) (hp1 : (rSl (rArr 2 (rI .i64))).rep G [v1] p1) (p2 : Int) (p3 : Int) (O : Ow G H (L)) (r : Bool) (h : g_law_GraphPaths K p0 p1 p2 p3 = some r) :
    CR Try.prog 4 [(.int .i64 p0), v1, (.int .i64 p2), (.int .i64 p3)] G H (L) (fun v G' _ => v = .bool r) := by
  unfold g_law_GraphPaths at h
  refine CR.of (calls_of_AW (n := 88) (fn := Try.f4) (R := fun v H' => ∃ G', Ow G' H' (L) ∧ G.le G' ∧ v = .bool r) (by kernel_rfl) rfl rfl ?_)
  refine .seq ?_
  refine .region ?_
  refine W.pure (v := (.bool false)) rfl rfl (v_assign (oo rfl rfl)) ?_
  refine .nil ?_
  refine .seq ?_
  refine .seq ?_
  refine .region ?_
  obtain ⟨x1, i2, h3⟩ := bd_inv h
  refine W.lo rfl rfl (Lo.callP (ps := []) (ps' := []) rfl (fn := Try.f9) (by kernel_rfl) rfl mn O (fun L' O' => g_law_graphFact_ok K  O' _ i2)) ?_
  rintro v10 H11 ⟨G4, O5, s6, sm9, rfl⟩
  replace O5 : Ow G4 H11 (L) := O5
  refine W.pure (v := (.bool (!x1))) rfl rfl (bool_not (a := x1) (oo rfl rfl)) ?_
  refine .nil ?_
  refine .cond (b := (!x1)) rfl rfl (fun g12 => ?_) (fun g12 => ?_)
  · have h13 := pos_inv g12 h3
    refine .seq ?_
    refine .region ?_
    refine W.pure (v := (.bool false)) rfl rfl (v_assign (oo rfl rfl)) ?_
    refine .nil ?_
    refine .ret ?_
    obtain rfl := Option.some.inj h13
    refine ret1R (P := Try.prog) (fn := Try.f4) (n := 88) (R := fun v H' => ∃ G', Ow G' H' (L) ∧ G.le G' ∧ v = .bool false) (v1 := (.bool false)) (by rfl) (rr_tmp (by rfl) (by exact rfl)) ?_
    exact ⟨_, O5, s6, rfl⟩
  · have h14 := neg_b g12 h3
    refine .skip ?_
    refine .seq ?_
    refine .region ?_
    refine W.pure (v := (.int .i64 p0)) rfl rfl (v_move (oo rfl rfl)) ?_
    refine W.pure (v := v1) rfl rfl (v_move (oo rfl rfl)) ?_
    refine W.pure (v := (.int .i64 p2)) rfl rfl (v_move (oo rfl rfl)) ?_
    refine W.pure (v := (.int .i64 p3)) rfl rfl (v_move (oo rfl rfl)) ?_
    obtain ⟨x15, i16, h17⟩ := bd_inv h14
    refine W.lo rfl rfl (Lo.callPF (ps := []) (pw := fun w => [eSl w 3 (rI .i64) x15.1]) rfl (fn := Try.f19) (by kernel_rfl) rfl (mc rfl (mc rfl (mc rfl (mc rfl mn)))) O5 (fun L' O' => g_graph_Path_ok K p0 v1 p1 (RT.mono _ s6 hp1) p2 p3 O' _ i16)) ?_
    rintro v26 H27 ⟨w23, G18, O19, s20, sm25, rfl⟩
    replace O19 : Ow G18 H27 (eSl w23 3 (rI .i64) x15.1 :: L) := O19
    refine W.pure (v := (.tuple #[w23, (.int .i64 x15.2)])) rfl rfl (v_move (oo rfl rfl)) ?_
    refine W.pure (v := w23) rfl rfl (v_extract (oo rfl rfl) rfl) ?_
    refine W.pure (v := (.int .i64 x15.2)) rfl rfl (v_extract (oo rfl rfl) rfl) ?_
    refine W.pure (v := w23) rfl rfl (v_assign (oo rfl rfl)) ?_
    refine W.pure (v := (.int .i64 x15.2)) rfl rfl (v_assign (oo rfl rfl)) ?_
    refine .nil ?_
    refine .seq ?_
    refine .region ?_
    refine W.pure (v := (.int .i64 p0)) rfl rfl (v_move (oo rfl rfl)) ?_
    refine W.pure (v := v1) rfl rfl (v_move (oo rfl rfl)) ?_
    obtain ⟨x28, i29, h30⟩ := bd_inv h17
    refine W.lo rfl rfl (Lo.callP (ps := []) (ps' := []) rfl (fn := Try.f12) (by kernel_rfl) rfl (mc rfl (mc rfl mn)) O19 (fun L' O' => g_R_GraphError_ok K p0 v1 p1 (RT.mono _ (GM.le.trans s6 s20) hp1) O' _ i29)) ?_
    rintro v37 H38 ⟨G31, O32, s33, sm36, rfl⟩
    replace O32 : Ow G31 H38 (eSl w23 3 (rI .i64) x15.1 :: L) := O32
    refine W.pure (v := (.int .i64 x28)) rfl rfl (v_assign (oo rfl rfl)) ?_
    refine .nil ?_
    refine .seq ?_
    refine .seq ?_
    obtain ⟨q39, h40, h41⟩ := bd_inv h30
    refine AW.midT (fun σ' H' => ∃ (y1 : Bool) (G' : GM), y1 = q39 ∧ Ow G' H' (eSl w23 3 (rI .i64) x15.1 :: L) ∧ GM.le G31 G' ∧ σ' 46 = .bool y1) ?_ ?_
    · refine .region ?_
      refine W.pure (v := (.int .i64 x28)) rfl rfl (v_move (oo rfl rfl)) ?_
      refine W.pure (v := (.bool (x28 == 0))) rfl rfl (v_int (oo rfl rfl) (oo rfl rfl) rfl) ?_
      refine W.pure (v := (.bool (x28 == 0))) rfl rfl (v_move (oo rfl rfl)) ?_
      refine W.splitAt (t := 29) (b := (x28 == 0)) rfl (fun g42 gv43 => ?_) (fun g42 gv43 => ?_)
      · have h44 := pos_inv g42 h40
        refine W.pure (v := (.int .i64 p2)) (gk rfl rfl gv43 rfl) rfl (v_move (oo rfl rfl)) ?_
        refine W.pure (v := (.bool (decide (p2 < 0)))) (gk rfl rfl gv43 rfl) rfl (v_int (oo rfl rfl) (oo rfl rfl) rfl) ?_
        refine W.pure (v := (.bool (decide (p2 < 0)))) (gk rfl rfl gv43 rfl) rfl (v_move (oo rfl rfl)) ?_
        refine W.splitAt (t := 32) (b := decide (p2 < 0)) rfl (fun g45 gv46 => ?_) (fun g45 gv46 => ?_)
        · have h47 := pos_inv g45 h44
          refine W.skip (gk rfl rfl gv46 rfl) rfl ?_
          refine W.skip (gk rfl rfl gv46 rfl) rfl ?_
          refine W.skip (gk rfl rfl gv46 rfl) rfl ?_
          refine W.pure (v := (.bool true)) (gk rfl rfl gv43 rfl) rfl (v_pickT (oo rfl gv46) (oo rfl rfl)) ?_
          refine W.pure (v := (.bool true)) (gk rfl rfl gv43 rfl) rfl (v_move (oo rfl rfl)) ?_
          refine W.skip (gk rfl rfl rfl rfl) rfl ?_
          refine W.skip (gk rfl rfl rfl rfl) rfl ?_
          refine W.pure (v := (.bool true)) (gk rfl rfl gv43 rfl) rfl (v_pickT (oo rfl rfl) (oo rfl rfl)) ?_
          refine W.pure (v := (.bool true)) (gk rfl rfl gv43 rfl) rfl (v_move (oo rfl rfl)) ?_
          refine W.skip (gk rfl rfl rfl rfl) rfl ?_
          refine W.skip (gk rfl rfl rfl rfl) rfl ?_
          refine W.skip (gk rfl rfl rfl rfl) rfl ?_
          refine W.pure (v := (.bool true)) (gk rfl rfl gv43 rfl) rfl (v_pickT (oo rfl rfl) (oo rfl rfl)) ?_
          refine W.pure (v := (.bool true)) rfl rfl (v_pickT (oo rfl gv43) (oo rfl rfl)) ?_
          refine .nil ?_
          obtain rfl := Option.some.inj h47
          exact ⟨true, _, rfl, O32, (GM.le.refl _), rfl⟩
        · have h48 := neg_b g45 h44
          refine W.pure (v := (.int .i64 p2)) (gk rfl rfl gv46 rfl) rfl (v_move (oo rfl rfl)) ?_
          refine W.pure (v := (.int .i64 p0)) (gk rfl rfl gv46 rfl) rfl (v_move (oo rfl rfl)) ?_
          refine W.pure (v := (.bool (decide (p2 ≥ p0)))) (gk rfl rfl gv46 rfl) rfl (v_int (oo rfl rfl) (oo rfl rfl) rfl) ?_
          refine W.pure (v := (.bool (decide (p2 ≥ p0)))) (gk rfl rfl gv43 rfl) rfl (v_pickF (oo rfl gv46) (oo rfl rfl)) ?_
          refine W.pure (v := (.bool (decide (p2 ≥ p0)))) (gk rfl rfl gv43 rfl) rfl (v_move (oo rfl rfl)) ?_
          refine W.splitAt (t := 37) (b := decide (p2 ≥ p0)) rfl (fun g49 gv50 => ?_) (fun g49 gv50 => ?_)
          · have h51 := pos_inv g49 h48
            refine W.skip (gk rfl rfl gv50 rfl) rfl ?_
            refine W.skip (gk rfl rfl gv50 rfl) rfl ?_
            refine W.pure (v := (.bool true)) (gk rfl rfl gv43 rfl) rfl (v_pickT (oo rfl gv50) (oo rfl rfl)) ?_
            refine W.pure (v := (.bool true)) (gk rfl rfl gv43 rfl) rfl (v_move (oo rfl rfl)) ?_
            refine W.skip (gk rfl rfl rfl rfl) rfl ?_
            refine W.skip (gk rfl rfl rfl rfl) rfl ?_
            refine W.skip (gk rfl rfl rfl rfl) rfl ?_
            refine W.pure (v := (.bool true)) (gk rfl rfl gv43 rfl) rfl (v_pickT (oo rfl rfl) (oo rfl rfl)) ?_
            refine W.pure (v := (.bool true)) rfl rfl (v_pickT (oo rfl gv43) (oo rfl rfl)) ?_
            refine .nil ?_
            obtain rfl := Option.some.inj h51
            exact ⟨true, _, rfl, O32, (GM.le.refl _), rfl⟩
          · have h52 := neg_b g49 h48
            refine W.pure (v := (.int .i64 p3)) (gk rfl rfl gv50 rfl) rfl (v_move (oo rfl rfl)) ?_
            refine W.pure (v := (.bool (decide (p3 < 0)))) (gk rfl rfl gv50 rfl) rfl (v_int (oo rfl rfl) (oo rfl rfl) rfl) ?_
            refine W.pure (v := (.bool (decide (p3 < 0)))) (gk rfl rfl gv43 rfl) rfl (v_pickF (oo rfl gv50) (oo rfl rfl)) ?_
            refine W.pure (v := (.bool (decide (p3 < 0)))) (gk rfl rfl gv43 rfl) rfl (v_move (oo rfl rfl)) ?_
            refine W.splitAt (t := 41) (b := decide (p3 < 0)) rfl (fun g53 gv54 => ?_) (fun g53 gv54 => ?_)
            · have h55 := pos_inv g53 h52
              refine W.skip (gk rfl rfl gv54 rfl) rfl ?_
              refine W.skip (gk rfl rfl gv54 rfl) rfl ?_
              refine W.skip (gk rfl rfl gv54 rfl) rfl ?_
              refine W.pure (v := (.bool true)) (gk rfl rfl gv43 rfl) rfl (v_pickT (oo rfl gv54) (oo rfl rfl)) ?_
              refine W.pure (v := (.bool true)) rfl rfl (v_pickT (oo rfl gv43) (oo rfl rfl)) ?_
              refine .nil ?_
              obtain rfl := Option.some.inj h55
              exact ⟨true, _, rfl, O32, (GM.le.refl _), rfl⟩
            · have h56 := neg_b g53 h52
              refine W.pure (v := (.int .i64 p3)) (gk rfl rfl gv54 rfl) rfl (v_move (oo rfl rfl)) ?_
              refine W.pure (v := (.int .i64 p0)) (gk rfl rfl gv54 rfl) rfl (v_move (oo rfl rfl)) ?_
              refine W.pure (v := (.bool (decide (p3 ≥ p0)))) (gk rfl rfl gv54 rfl) rfl (v_int (oo rfl rfl) (oo rfl rfl) rfl) ?_
              refine W.pure (v := (.bool (decide (p3 ≥ p0)))) (gk rfl rfl gv43 rfl) rfl (v_pickF (oo rfl gv54) (oo rfl rfl)) ?_
              refine W.pure (v := (.bool (decide (p3 ≥ p0)))) rfl rfl (v_pickT (oo rfl gv43) (oo rfl rfl)) ?_
              refine .nil ?_
              obtain rfl := Option.some.inj h56
              exact ⟨decide (p3 ≥ p0), _, rfl, O32, (GM.le.refl _), rfl⟩
      · have h57 := neg_b g42 h40
        refine W.skip (gk rfl rfl gv43 rfl) rfl ?_
        refine W.skip (gk rfl rfl gv43 rfl) rfl ?_
        refine W.skip (gk rfl rfl gv43 rfl) rfl ?_
        refine W.skipU rfl rfl rfl rfl ?_
        refine W.skipU rfl rfl rfl rfl ?_
        refine W.skipU rfl rfl rfl rfl ?_
        refine W.skip (gk rfl rfl gv43 rfl) rfl ?_
        refine W.skip (gk rfl rfl gv43 rfl) rfl ?_
        refine W.skipU rfl rfl rfl rfl ?_
        refine W.skipU rfl rfl rfl rfl ?_
        refine W.skip (gk rfl rfl gv43 rfl) rfl ?_
        refine W.skip (gk rfl rfl gv43 rfl) rfl ?_
        refine W.skipU rfl rfl rfl rfl ?_
        refine W.skipU rfl rfl rfl rfl ?_
        refine W.skipU rfl rfl rfl rfl ?_
        refine W.skip (gk rfl rfl gv43 rfl) rfl ?_
        refine W.pure (v := (.bool false)) rfl rfl (v_pickF (oo rfl gv43) (oo rfl rfl)) ?_
        refine .nil ?_
        obtain rfl := Option.some.inj h57
        exact ⟨false, _, rfl, O32, (GM.le.refl _), rfl⟩
    · rintro σ59 H60 fr61 ⟨x58, G62, rfl, O63, s64, t66⟩
      have h67 := tu1_inv h41
      obtain ⟨q68, h69, h70⟩ := bd_inv h67
      refine AW.midT (fun σ' H' => ∃ (y1 : Int) (G' : GM), y1 = q68 ∧ Ow G' H' (eSl w23 3 (rI .i64) x15.1 :: L) ∧ GM.le G62 G' ∧ σ' 11 = .int .i64 y1) ?_ ?_
      · refine .cond (b := x58) rfl t66 (fun g71 => ?_) (fun g71 => ?_)
        · have h72 := pos_inv g71 h69
          refine .region ?_
          refine W.pure (v := (.int .i64 4)) rfl rfl (v_assign (oo rfl rfl)) ?_
          refine .nil ?_
          obtain rfl := Option.some.inj h72
          exact ⟨4, _, rfl, O63, (GM.le.refl _), rfl⟩
        · have h73 := neg_b g71 h69
          refine .skip ?_
          obtain rfl := Option.some.inj h73
          exact ⟨x28, _, rfl, O63, (GM.le.refl _), ((fr61 11 rfl).trans rfl)⟩
      · rintro σ75 H76 fr77 ⟨x74, G78, rfl, O79, s80, t82⟩
        have h83 := tu1_inv h70
        refine .seq ?_
        refine .seq ?_
        refine .region ?_
        refine W.pure (v := (.int .i64 x74)) rfl rfl (v_move (oo rfl t82)) ?_
        refine W.pure (v := (.bool (x74 != 0))) rfl rfl (v_int (oo rfl rfl) (oo rfl rfl) rfl) ?_
        refine .nil ?_
        refine .cond (b := (x74 != 0)) rfl rfl (fun g84 => ?_) (fun g84 => ?_)
        · have h85 := pos_inv g84 h83
          refine .seq ?_
          obtain ⟨q86, h87, h88⟩ := bd_inv h85
          refine AW.midT (fun σ' H' => ∃ (y1 : Bool) (G' : GM), y1 = q86 ∧ Ow G' H' (eSl w23 3 (rI .i64) x15.1 :: L) ∧ GM.le G78 G' ∧ σ' 8 = .bool y1) ?_ ?_
          · refine .region ?_
            refine W.pure (v := (.int .i64 x15.2)) rfl rfl (v_move (oo rfl ((fr77 10 rfl).trans ((fr61 10 rfl).trans rfl)))) ?_
            refine W.pure (v := (.int .i64 x74)) rfl rfl (v_move (oo rfl t82)) ?_
            refine W.pure (v := (.bool (x15.2 == x74))) rfl rfl (v_int (oo rfl rfl) (oo rfl rfl) rfl) ?_
            refine W.pure (v := (.bool (x15.2 == x74))) rfl rfl (v_move (oo rfl rfl)) ?_
            refine W.splitAt (t := 52) (b := (x15.2 == x74)) rfl (fun g89 gv90 => ?_) (fun g89 gv90 => ?_)
            · have h91 := pos_inv g89 h87
              refine W.pure (v := w23) (gk rfl rfl gv90 rfl) rfl (v_move (oo rfl ((fr77 9 rfl).trans ((fr61 9 rfl).trans rfl)))) ?_
              refine W.pure (v := (.int .i64 (List.length x15.1 : Int))) (gk rfl rfl gv90 rfl) rfl (len_sl (oo rfl rfl) (O79.slLen (j := 0) rfl) (elemT_inv el24)) ?_
              refine W.pure (v := (.bool ((List.length x15.1 : Int) == 0))) (gk rfl rfl gv90 rfl) rfl (v_int (oo rfl rfl) (oo rfl rfl) rfl) ?_
              refine W.pure (v := (.bool ((List.length x15.1 : Int) == 0))) rfl rfl (v_pickT (oo rfl gv90) (oo rfl rfl)) ?_
              refine W.pure (v := (.bool ((List.length x15.1 : Int) == 0))) rfl rfl (v_assign (oo rfl rfl)) ?_
              refine .nil ?_
              obtain rfl := Option.some.inj h91
              exact ⟨((List.length x15.1 : Int) == 0), _, rfl, O79, (GM.le.refl _), rfl⟩
            · have h92 := neg_b g89 h87
              refine W.skip (gk rfl rfl gv90 rfl) rfl ?_
              refine W.skip (gk rfl rfl gv90 rfl) rfl ?_
              refine W.skip (gk rfl rfl gv90 rfl) rfl ?_
              refine W.pure (v := (.bool false)) rfl rfl (v_pickF (oo rfl gv90) (oo rfl rfl)) ?_
              refine W.pure (v := (.bool false)) rfl rfl (v_assign (oo rfl rfl)) ?_
              refine .nil ?_
              obtain rfl := Option.some.inj h92
              exact ⟨false, _, rfl, O79, (GM.le.refl _), rfl⟩
          · rintro σ94 H95 fr96 ⟨x93, G97, rfl, O98, s99, t101⟩
            have h102 := tu1_inv h88
            refine .ret ?_
            have O103 : Ow G97 H95 (L) := O98.drop 0
            obtain rfl := Option.some.inj h102
            refine ret1R (P := Try.prog) (fn := Try.f4) (n := 88) (R := fun v H' => ∃ G', Ow G' H' (L) ∧ G.le G' ∧ v = .bool x93) (v1 := (.bool x93)) (by rfl) (rr_tmp (by rfl) (by exact t101)) ?_
            exact ⟨_, O103, (GM.le.trans s6 (GM.le.trans s20 (GM.le.trans s33 (GM.le.trans s64 (GM.le.trans s80 s99))))), rfl⟩
        · have h104 := neg_b g84 h83
          refine .skip ?_
          refine .seq ?_
          refine .seq ?_
          obtain ⟨q105, h106, h107⟩ := bd_inv h104
          refine AW.midT (fun σ' H' => ∃ (y1 : Bool) (G' : GM), y1 = q105 ∧ Ow G' H' (eSl w23 3 (rI .i64) x15.1 :: L) ∧ GM.le G78 G' ∧ σ' 63 = .bool y1) ?_ ?_
          · refine .region ?_
            refine W.pure (v := (.int .i64 p0)) rfl rfl (v_move (oo rfl ((fr77 0 rfl).trans ((fr61 0 rfl).trans rfl)))) ?_
            refine W.pure (v := (.bool (decide (p0 > 7)))) rfl rfl (v_int (oo rfl rfl) (oo rfl rfl) rfl) ?_
            refine W.pure (v := (.bool (decide (p0 > 7)))) rfl rfl (v_move (oo rfl rfl)) ?_
            refine W.splitAt (t := 59) (b := decide (p0 > 7)) rfl (fun g108 gv109 => ?_) (fun g108 gv109 => ?_)
            · have h110 := pos_inv g108 h106
              refine W.skip (gk rfl rfl gv109 rfl) rfl ?_
              refine W.skip (gk rfl rfl gv109 rfl) rfl ?_
              refine W.skip (gk rfl rfl gv109 rfl) rfl ?_
              refine W.pure (v := (.bool true)) rfl rfl (v_pickT (oo rfl gv109) (oo rfl rfl)) ?_
              refine .nil ?_
              obtain rfl := Option.some.inj h110
              exact ⟨true, _, rfl, O79, (GM.le.refl _), rfl⟩
            · have h111 := neg_b g108 h106
              refine W.pure (v := v1) (gk rfl rfl gv109 rfl) rfl (v_move (oo rfl ((fr77 1 rfl).trans ((fr61 1 rfl).trans rfl)))) ?_
              refine W.pure (v := (.int .i64 (List.length p1 : Int))) (gk rfl rfl gv109 rfl) rfl (len_sl (oo rfl rfl) (sl_len (RT.mono _ (GM.le.trans s6 (GM.le.trans s20 (GM.le.trans s33 (GM.le.trans s64 s80)))) hp1)) (elemT_inv el22)) ?_
              refine W.pure (v := (.bool (decide ((List.length p1 : Int) > 9)))) (gk rfl rfl gv109 rfl) rfl (v_int (oo rfl rfl) (oo rfl rfl) rfl) ?_
              refine W.pure (v := (.bool (decide ((List.length p1 : Int) > 9)))) rfl rfl (v_pickF (oo rfl gv109) (oo rfl rfl)) ?_
              refine .nil ?_
              obtain rfl := Option.some.inj h111
              exact ⟨decide ((List.length p1 : Int) > 9), _, rfl, O79, (GM.le.refl _), rfl⟩
          · rintro σ113 H114 fr115 ⟨x112, G116, rfl, O117, s118, t120⟩
            have h121 := tu1_inv h107
            refine .cond (b := x112) rfl t120 (fun g122 => ?_) (fun g122 => ?_)
            · have h123 := pos_inv g122 h121
              refine .seq ?_
              refine .region ?_
              refine W.pure (v := (.bool true)) rfl rfl (v_assign (oo rfl rfl)) ?_
              refine .nil ?_
              refine .ret ?_
              have O124 : Ow G116 H114 (L) := O117.drop 0
              obtain rfl := Option.some.inj h123
              refine ret1R (P := Try.prog) (fn := Try.f4) (n := 88) (R := fun v H' => ∃ G', Ow G' H' (L) ∧ G.le G' ∧ v = .bool true) (v1 := (.bool true)) (by rfl) (rr_tmp (by rfl) (by exact rfl)) ?_
              exact ⟨_, O124, (GM.le.trans s6 (GM.le.trans s20 (GM.le.trans s33 (GM.le.trans s64 (GM.le.trans s80 s118))))), rfl⟩
            · have h125 := neg_b g122 h121
              refine .skip ?_
              refine .seq ?_
              refine .region ?_
              refine W.pure (v := (.int .i64 p0)) rfl rfl (v_move (oo rfl ((fr115 0 rfl).trans ((fr77 0 rfl).trans ((fr61 0 rfl).trans rfl))))) ?_
              refine W.pure (v := v1) rfl rfl (v_move (oo rfl ((fr115 1 rfl).trans ((fr77 1 rfl).trans ((fr61 1 rfl).trans rfl))))) ?_
              refine W.pure (v := (.int .i64 p2)) rfl rfl (v_move (oo rfl ((fr115 2 rfl).trans ((fr77 2 rfl).trans ((fr61 2 rfl).trans rfl))))) ?_
              refine W.pure (v := (.int .i64 p3)) rfl rfl (v_move (oo rfl ((fr115 3 rfl).trans ((fr77 3 rfl).trans ((fr61 3 rfl).trans rfl))))) ?_
              obtain ⟨x126, i127, h128⟩ := bd_inv h125
              refine W.lo rfl rfl (Lo.callP (ps := []) (ps' := []) rfl (fn := Try.f20) (by kernel_rfl) rfl (mc rfl (mc rfl (mc rfl (mc rfl (mc rfl mn))))) O117 (fun L' O' => g_R_Shortest_ok K p0 v1 p1 (RT.mono _ (GM.le.trans s6 (GM.le.trans s20 (GM.le.trans s33 (GM.le.trans s64 (GM.le.trans s80 s118))))) hp1) p2 p3 (.func (.func 18) #[] #[]) (fun x => g_law_yes K x) ⟨18, _, _, Try.f18, rfl, by kernel_rfl, rfl, fun G1 H L vs x r hG O hA hF => by obtain rfl := hA; exact g_law_yes_ok K x O _ hF⟩ O' _ i127)) ?_
              rintro v137 H138 ⟨G129, O130, s131, sm136, ⟨w133, rfl, f134⟩⟩
              replace O130 : Ow G129 H138 (eSl w23 3 (rI .i64) x15.1 :: L) := O130
              refine W.pure (v := (.tuple #[w133, (.bool x126.2)])) rfl rfl (v_move (oo rfl rfl)) ?_
              refine W.pure (v := w133) rfl rfl (v_extract (oo rfl rfl) rfl) ?_
              refine W.pure (v := (.bool x126.2)) rfl rfl (v_extract (oo rfl rfl) rfl) ?_
              refine W.pure (v := w133) rfl rfl (v_assign (oo rfl rfl)) ?_
              refine W.pure (v := (.bool x126.2)) rfl rfl (v_assign (oo rfl rfl)) ?_
              refine .nil ?_
              refine .seq ?_
              refine .seq ?_
              refine .region ?_
              refine W.pure (v := (.bool x126.2)) rfl rfl (v_move (oo rfl rfl)) ?_
              refine W.pure (v := (.bool (!x126.2))) rfl rfl (bool_not (a := x126.2) (oo rfl rfl)) ?_
              refine .nil ?_
              refine .cond (b := (!x126.2)) rfl rfl (fun g139 => ?_) (fun g139 => ?_)
              · have h140 := pos_inv g139 h128
                refine .seq ?_
                obtain ⟨q141, h142, h143⟩ := bd_inv h140
                refine AW.midT (fun σ' H' => ∃ (y1 : Bool) (G' : GM), y1 = q141 ∧ Ow G' H' (eSl w23 3 (rI .i64) x15.1 :: L) ∧ GM.le G129 G' ∧ σ' 8 = .bool y1) ?_ ?_
                · refine .region ?_
                  refine W.pure (v := (.int .i64 x15.2)) rfl rfl (v_move (oo rfl ((fr115 10 rfl).trans ((fr77 10 rfl).trans ((fr61 10 rfl).trans rfl))))) ?_
                  refine W.pure (v := (.bool (x15.2 == 8))) rfl rfl (v_int (oo rfl rfl) (oo rfl rfl) rfl) ?_
                  refine W.pure (v := (.bool (x15.2 == 8))) rfl rfl (v_move (oo rfl rfl)) ?_
                  refine W.splitAt (t := 76) (b := (x15.2 == 8)) rfl (fun g144 gv145 => ?_) (fun g144 gv145 => ?_)
                  · have h146 := pos_inv g144 h142
                    refine W.pure (v := w23) (gk rfl rfl gv145 rfl) rfl (v_move (oo rfl ((fr115 9 rfl).trans ((fr77 9 rfl).trans ((fr61 9 rfl).trans rfl))))) ?_
                    refine W.pure (v := (.int .i64 (List.length x15.1 : Int))) (gk rfl rfl gv145 rfl) rfl (len_sl (oo rfl rfl) (O130.slLen (j := 0) rfl) (elemT_inv el24)) ?_
                    refine W.pure (v := (.bool ((List.length x15.1 : Int) == 0))) (gk rfl rfl gv145 rfl) rfl (v_int (oo rfl rfl) (oo rfl rfl) rfl) ?_
                    refine W.pure (v := (.bool ((List.length x15.1 : Int) == 0))) rfl rfl (v_pickT (oo rfl gv145) (oo rfl rfl)) ?_
                    refine W.pure (v := (.bool ((List.length x15.1 : Int) == 0))) rfl rfl (v_assign (oo rfl rfl)) ?_
                    refine .nil ?_
                    obtain rfl := Option.some.inj h146
                    exact ⟨((List.length x15.1 : Int) == 0), _, rfl, O130, (GM.le.refl _), rfl⟩
                  · have h147 := neg_b g144 h142
                    refine W.skip (gk rfl rfl gv145 rfl) rfl ?_
                    refine W.skip (gk rfl rfl gv145 rfl) rfl ?_
                    refine W.skip (gk rfl rfl gv145 rfl) rfl ?_
                    refine W.pure (v := (.bool false)) rfl rfl (v_pickF (oo rfl gv145) (oo rfl rfl)) ?_
                    refine W.pure (v := (.bool false)) rfl rfl (v_assign (oo rfl rfl)) ?_
                    refine .nil ?_
                    obtain rfl := Option.some.inj h147
                    exact ⟨false, _, rfl, O130, (GM.le.refl _), rfl⟩
                · rintro σ149 H150 fr151 ⟨x148, G152, rfl, O153, s154, t156⟩
                  have h157 := tu1_inv h143
                  refine .ret ?_
                  have O158 : Ow G152 H150 (L) := O153.drop 0
                  obtain rfl := Option.some.inj h157
                  refine ret1R (P := Try.prog) (fn := Try.f4) (n := 88) (R := fun v H' => ∃ G', Ow G' H' (L) ∧ G.le G' ∧ v = .bool x148) (v1 := (.bool x148)) (by rfl) (rr_tmp (by rfl) (by exact t156)) ?_
                  exact ⟨_, O158, (GM.le.trans s6 (GM.le.trans s20 (GM.le.trans s33 (GM.le.trans s64 (GM.le.trans s80 (GM.le.trans s118 (GM.le.trans s131 s154))))))), rfl⟩
              · have h159 := neg_b g139 h128
                refine .skip ?_
                refine .seq ?_
                obtain ⟨q160, h161, h162⟩ := bd_inv h159
                refine AW.midT (fun σ' H' => ∃ (y1 : Bool) (G' : GM), y1 = q160 ∧ Ow G' H' (eSl w23 3 (rI .i64) x15.1 :: L) ∧ GM.le G129 G' ∧ σ' 8 = .bool y1) ?_ ?_
                · refine .region ?_
                  refine W.pure (v := (.int .i64 x15.2)) rfl rfl (v_move (oo rfl ((fr115 10 rfl).trans ((fr77 10 rfl).trans ((fr61 10 rfl).trans rfl))))) ?_
                  refine W.pure (v := (.bool (x15.2 == 0))) rfl rfl (v_int (oo rfl rfl) (oo rfl rfl) rfl) ?_
                  refine W.pure (v := (.bool (x15.2 == 0))) rfl rfl (v_move (oo rfl rfl)) ?_
                  refine W.splitAt (t := 83) (b := (x15.2 == 0)) rfl (fun g163 gv164 => ?_) (fun g163 gv164 => ?_)
                  · have h165 := pos_inv g163 h161
                    refine W.pure (v := w23) (gk rfl rfl gv164 rfl) rfl (v_move (oo rfl ((fr115 9 rfl).trans ((fr77 9 rfl).trans ((fr61 9 rfl).trans rfl))))) ?_
                    refine W.pure (v := w133) (gk rfl rfl gv164 rfl) rfl (v_move (oo rfl rfl)) ?_
                    obtain ⟨x166, i167, h168⟩ := bd_inv h165
                    refine W.lo (gk rfl rfl gv164 rfl) rfl (Lo.callB (j := 0) rfl rfl (fn := Try.f16) (by kernel_rfl) rfl (mc rfl (mc rfl mn)) O130 (fun G' L' hG O' hB => g_slices_Equal_int_int_ok K w23 x15.1 hB w133 x126.1 (RT.mono _ hG f134) O' _ i167)) ?_
                    rintro v175 H176 ⟨G169, O170, s171, sm174, rfl⟩
                    replace O170 : Ow G169 H176 (eSl w23 3 (rI .i64) x15.1 :: L) := O170
                    refine W.pure (v := (.bool x166)) rfl rfl (v_pickT (oo rfl gv164) (oo rfl rfl)) ?_
                    refine W.pure (v := (.bool x166)) rfl rfl (v_assign (oo rfl rfl)) ?_
                    refine .nil ?_
                    obtain rfl := Option.some.inj h168
                    exact ⟨x166, _, rfl, O170, s171, rfl⟩
                  · have h177 := neg_b g163 h161
                    refine W.skip (gk rfl rfl gv164 rfl) rfl ?_
                    refine W.skip (gk rfl rfl gv164 rfl) rfl ?_
                    refine W.skip (gk rfl rfl gv164 rfl) rfl ?_
                    refine W.pure (v := (.bool false)) rfl rfl (v_pickF (oo rfl gv164) (oo rfl rfl)) ?_
                    refine W.pure (v := (.bool false)) rfl rfl (v_assign (oo rfl rfl)) ?_
                    refine .nil ?_
                    obtain rfl := Option.some.inj h177
                    exact ⟨false, _, rfl, O130, (GM.le.refl _), rfl⟩
                · rintro σ179 H180 fr181 ⟨x178, G182, rfl, O183, s184, t186⟩
                  have h187 := tu1_inv h162
                  refine .ret ?_
                  have O188 : Ow G182 H180 (L) := O183.drop 0
                  obtain rfl := Option.some.inj h187
                  refine ret1R (P := Try.prog) (fn := Try.f4) (n := 88) (R := fun v H' => ∃ G', Ow G' H' (L) ∧ G.le G' ∧ v = .bool x178) (v1 := (.bool x178)) (by rfl) (rr_tmp (by rfl) (by exact t186)) ?_
                  exact ⟨_, O188, (GM.le.trans s6 (GM.le.trans s20 (GM.le.trans s33 (GM.le.trans s64 (GM.le.trans s80 (GM.le.trans s118 (GM.le.trans s131 s184))))))), rfl⟩
end Go.Am.Try
