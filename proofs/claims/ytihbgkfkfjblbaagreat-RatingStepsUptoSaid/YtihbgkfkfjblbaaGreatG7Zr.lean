/- Typed functions with the same answers as the program's, and the walks that show it. -/
import Derived.Test.YtihbgkfkfjblbaaGreatG2Zr
import Derived.Test.YtihbgkfkfjblbaaGreatG6Zr
set_option maxRecDepth 100000
set_option maxHeartbeats 8000000
set_option linter.unusedVariables false
set_option linter.unusedSimpArgs false
namespace Go.Am.Tryz
open Go Go.Am Go.Proofs
variable (K : Nat) {G : GM} {H : AH} {L : List Pc}
def z84 (K : Nat) (b : Q) (c : Q) : Option Q := (if ((b.num.length : Int) == 0) = true then some c else (if ((c.num.length : Int) == 0) = true then some b else ((z41 K c).bind fun o => ((z50 K b.num o).bind fun e => ((z41 K b).bind fun p => ((z50 K c.num p).bind fun a => ((z41 K b).bind fun f => ((z41 K c).bind fun g => ((z50 K f g).bind fun d => (if (b.neg == c.neg) = true then ((z83 K e a).bind fun h => ((z8j K b.neg h d).bind fun i => some i)) else ((z5o K e a).bind fun j => (if (decide (j >= 0)) = true then ((z7b K e a).bind fun k => ((z8j K b.neg k d).bind fun l => some l)) else ((z7b K a e).bind fun m => ((z8j K c.neg m d).bind fun n => some n))))))))))))))
theorem zfr (cr : List Value) (e : Q) (dz : T_Q.rep G cr e) (v1 : List Value) (i : Q) (dA : T_Q.rep G v1 i) (O : Ow G H (L)) (r : Q) (h : z84 K e i = some r) :
    CR Tryz.prog 68 [.agg cr.toArray, .agg v1.toArray] G H (L) (fun v ea _ => ∃ (dB : List Value), v = .agg dB.toArray /\ T_Q.rep ea dB r) := by
 unfold z84 at h
 refine CR.og (n := 65) (fn := Tryz.f68) (by kernel_rfl) rfl rfl fun R kr => (.seq (.region (W.ln (Lo.box (r := T_Q) (x0 := e) (v := (.agg cr.toArray)) rfl rfl dz O) ?_)))
 rintro eR eS ⟨aZ, rfl, eb, eF⟩
 refine W.ln (Lo.box (r := T_Q) (x0 := i) (v := (.agg v1.toArray)) rfl rfl dA eb) ?_
 rintro eT eG ⟨b3, rfl, ec, eH⟩
 refine W.ln (Lo.alloc (r := T_Q) (x0 := (Q.mk false [] [])) ze73 (by kernel_rfl) z_Q ec) ?_
 rintro eI eJ ⟨Y, rfl, k, ed⟩
 refine .nil (.seq (.block (.seq (.region (W.pv (padd (.pointer (some ⟨aZ, 0, none⟩)) 1) (z0f zgq ov (k.atVar (j := 2) rfl)) ?_)))))
 obtain ⟨dC, dD, dE⟩ := At.sl (At.proj (k.atVar (j := 2) rfl) zc8)
 refine W.l1 dC ag71 (z0i rfl dD) (W.pv (.int .i64 (e.num.length : Int)) (z0q ov (z0g dE) (z05 el71)) (W.p3 (.bool ((e.num.length : Int) == 0)) (W.p1 (.bool ((e.num.length : Int) == 0)) (.nil (.cond (b := ((e.num.length : Int) == 0)) rfl rfl (fun a0 => ?_) (fun a0 => ?_))))))
 .have dF := z01 a0 h
  refine .seq (.region ?_)
  obtain ⟨b4, dG, b5⟩ := (k.atVar (j := 1) rfl)
  refine W.loadA (cs := b4) rfl rfl ag73 sz73 (z0i rfl dG) (RT.len _ b5) (W.ln (Lo.storeVar (j := 0) (s := T_Q) (y0 := i) (v := (.agg b4.toArray)) (o := 0) rfl ((Put.at (Put.self _) _ _)) rfl sz73 rfl (by omega) rfl b5 k) ?_)
  rintro eK eL ⟨b6, ee⟩
  refine .nil (.ret ?_)
  obtain ⟨b7, dH, b8⟩ := (b6.atVar (j := 0) rfl)
  have dI := ((b6.drop 0).drop 0).drop 0
  obtain rfl := zAa dF
  exact z1m kr (v1 := (.agg b7.toArray)) (by rfl) (z5f (p := (.pointer (some ⟨Y, 0, none⟩))) (by rfl) ag73 sz73 (by exact rfl) dH (RT.len _ b8)) dI (zAf _) ⟨b7, rfl, b8⟩
 have b9 := z0h a0 h
 refine .seq (.region (W.pv (padd (.pointer (some ⟨b3, 0, none⟩)) 1) (z0f zgq ov (k.atVar (j := 1) rfl)) ?_))
 obtain ⟨dJ, dK, dL⟩ := At.sl (At.proj (k.atVar (j := 1) rfl) zc8)
 refine W.l1 dJ ag71 (z0i rfl dK) (W.pv (.int .i64 (i.num.length : Int)) (z0q ov (z0g dL) (z05 el71)) (W.p3 (.bool ((i.num.length : Int) == 0)) (W.p1 (.bool ((i.num.length : Int) == 0)) (.nil (.cond (b := ((i.num.length : Int) == 0)) rfl rfl (fun a1 => ?_) (fun a1 => ?_))))))
 .have dM := z01 a1 b9
  refine .seq (.region ?_)
  obtain ⟨ca, dN, cb⟩ := (k.atVar (j := 2) rfl)
  refine W.loadA (cs := ca) rfl rfl ag73 sz73 (z0i rfl dN) (RT.len _ cb) (W.ln (Lo.storeVar (j := 0) (s := T_Q) (y0 := e) (v := (.agg ca.toArray)) (o := 0) rfl ((Put.at (Put.self _) _ _)) rfl sz73 rfl (by omega) rfl cb k) ?_)
  rintro eM eN ⟨cc, ef⟩
  refine .nil (.ret ?_)
  obtain ⟨cd, dO, ce⟩ := (cc.atVar (j := 0) rfl)
  have dP := ((cc.drop 0).drop 0).drop 0
  obtain rfl := zAa dM
  exact z1m kr (v1 := (.agg cd.toArray)) (by rfl) (z5f (p := (.pointer (some ⟨Y, 0, none⟩))) (by rfl) ag73 sz73 (by exact rfl) dO (RT.len _ ce)) dP (zAf _) ⟨cd, rfl, ce⟩
 have dQ := z0h a1 b9
 refine .skip (.seq (.draw2 (M := [0, 1, 0, 4, 15, 0, 32, 0, 159, 511, 1023, 2047]) mixed (by kernel_rfl) (by kernel_rfl) fun eO eP dR eQ => ?_))
 have aO := k.ext dR
 refine D2.pv (padd (.pointer (some ⟨aZ, 0, none⟩)) 1) (z0f zgq ov (aO.atVar (j := 2) rfl)) ?_
 obtain ⟨cf, dS, dT⟩ := At.sl (At.proj (aO.atVar (j := 2) rfl) zc8)
 refine D2.l1 cf ag71 (z0i rfl dS) z08 ?_
 obtain ⟨cg, dU, ch⟩ := (aO.atVar (j := 1) rfl)
 refine D2.loadA' (cs := cg) rfl rfl ag73 sz73 (z0i rfl dU) (RT.len _ ch) z08 ?_
 obtain ⟨dV, dW, dX⟩ := z00 dQ
 refine D2.lo rfl rfl (Lo.cQ Tryz.f82 (mc rfl mn) aO (fun l a => z64 K cg i ch a _ dW)) ?_ z08 ?_ ?_
 .rintro ci cj ⟨ck, a2, B, u, ⟨a3, rfl, a4⟩⟩; exact (faI (faR1 (.inr (smI (j := 2) u)) z08))
 .rintro ci cj ⟨ck, a2, B, u, ⟨a3, rfl, a4⟩⟩; exact z08
 rintro ci cj ⟨ck, a2, B, u, ⟨a3, rfl, a4⟩⟩
 obtain ⟨aP, dY, dZ⟩ := z00 dX
 refine D2.lo rfl rfl (Lo.qF Tryz.f81 (ps := []) (pw := fun w => [_]) (mc rfl (mc rfl mn)) a2 (fun l a => z61 K cf e.num (RT.mono _ B dT) a3 dV a4 a _ dY)) ?_ (faK z08) ?_ ?_
 .rintro cl cm ⟨f, cn, C, Z, E, rfl⟩; exact (faI (faI z08))
 .rintro cl cm ⟨f, cn, C, Z, E, rfl⟩; exact z08
 rintro cl cm ⟨f, cn, C, Z, E, rfl⟩
 refine D2.pv (padd (.pointer (some ⟨b3, 0, none⟩)) 1) (z0f zgq ov (C.atVar (j := 2) rfl)) ?_
 obtain ⟨co, d0, d1⟩ := At.sl (At.proj (C.atVar (j := 2) rfl) zc8)
 refine D2.l1 co ag71 (z0i rfl d0) (z7h (smI (j := 1) E) (z7h (smI (j := 1) u) z08)) ?_
 obtain ⟨cp, d2, cq⟩ := (C.atVar (j := 3) rfl)
 refine D2.loadA' (cs := cp) rfl rfl ag73 sz73 (z0i rfl d2) (RT.len _ cq) (z7h (smI (j := 2) E) (z7h (smI (j := 2) u) z08)) ?_
 obtain ⟨d3, d4, d5⟩ := z00 dZ
 refine D2.lo rfl rfl (Lo.cQ Tryz.f82 (mc rfl mn) C (fun l a => z64 K cp e cq a _ d4)) ?_ (faK (faK z08)) ?_ ?_
 .rintro a5 a6 ⟨a7, aa, m, F, ⟨ab, rfl, ac⟩⟩; exact (faI (faR1 (.inr (smI (j := 2) F)) (faI (faI z08))))
 .rintro a5 a6 ⟨a7, aa, m, F, ⟨ab, rfl, ac⟩⟩; exact z08
 rintro a5 a6 ⟨a7, aa, m, F, ⟨ab, rfl, ac⟩⟩
 obtain ⟨I, ct, cu⟩ := z00 d5
 refine D2.lo rfl rfl (Lo.qF Tryz.f81 (ps := []) (pw := fun w => [_]) (mc rfl (mc rfl mn)) aa (fun l a => z61 K co i.num (RT.mono _ m d1) ab d3 ac a _ ct)) ?_ (faK (faK (faK z08))) ?_ ?_
 .rintro a8 a9 ⟨c, ba, ad, x, aQ, rfl⟩; exact (faI (faI (faI (faI z08))))
 .rintro a8 a9 ⟨c, ba, ad, x, aQ, rfl⟩; exact z08
 rintro a8 a9 ⟨c, ba, ad, x, aQ, rfl⟩
 refine D2.p1 f (D2.p1 c (.nil (.seq (.draw2 (M := [0, 1, 0, 7, 15, 31]) mixed (by kernel_rfl) (by kernel_rfl) fun eg eh cv ei => ?_))))
 have bb := ad.ext cv
 obtain ⟨bc, cw, bd⟩ := (bb.atVar (j := 4) rfl)
 refine D2.loadA' (cs := bc) rfl rfl ag73 sz73 (z0i rfl cw) (RT.len _ bd) z08 ?_
 obtain ⟨cx, cy, cz⟩ := z00 cu
 refine D2.lo rfl rfl (Lo.cQ Tryz.f82 (mc rfl mn) bb (fun l a => z64 K bc e bd a _ cy)) ?_ z08 ?_ ?_
 .rintro be bf ⟨bg, J, y, N, ⟨ae, rfl, af⟩⟩; exact (faI z08)
 .rintro be bf ⟨bg, J, y, N, ⟨ae, rfl, af⟩⟩; exact z08
 rintro be bf ⟨bg, J, y, N, ⟨ae, rfl, af⟩⟩
 obtain ⟨bh, cA, bi⟩ := (J.atVar (j := 3) rfl)
 refine D2.loadA' (cs := bh) rfl rfl ag73 sz73 (z0i rfl cA) (RT.len _ bi) (z7h (smI (j := 3) N) z08) ?_
 obtain ⟨cB, cC, cD⟩ := z00 cz
 refine D2.lo rfl rfl (Lo.cQ Tryz.f82 (mc rfl mn) J (fun l a => z64 K bh i bi a _ cC)) ?_ (faK z08) ?_ ?_
 .rintro bj bk ⟨bl, ag, q, aR, ⟨ah, rfl, ai⟩⟩; exact (faI (faI z08))
 .rintro bj bk ⟨bl, ag, q, aR, ⟨ah, rfl, ai⟩⟩; exact z08
 rintro bj bk ⟨bl, ag, q, aR, ⟨ah, rfl, ai⟩⟩
 obtain ⟨aj, cE, bm⟩ := z00 cD
 refine D2.lo rfl rfl (Lo.qF Tryz.f81 (ps := []) (pw := fun w => [_]) (mc rfl (mc rfl mn)) ag (fun l a => z61 K ae cx (RT.mono _ q af) ah cB ai a _ cE)) ?_ (faK (faK z08)) ?_ ?_
 .rintro bn bo ⟨d, bp, g, z, aS, rfl⟩; exact (faI (faI z08))
 .rintro bn bo ⟨d, bp, g, z, aS, rfl⟩; exact z08
 rintro bn bo ⟨d, bp, g, z, aS, rfl⟩
 refine D2.p1 d (.nil (.seq (.seq (.region (W.pv (padd (.pointer (some ⟨aZ, 0, none⟩)) 0) (z0f zhq ov (g.atVar (j := 5) rfl)) (W.l1 (.bool e.neg) ag4 (z0i rfl (At.bool (At.proj (g.atVar (j := 5) rfl) zdj))) ?_))))))
 refine W.pv (padd (.pointer (some ⟨b3, 0, none⟩)) 0) (z0f zhq ov (g.atVar (j := 4) rfl)) (W.l1 (.bool i.neg) ag4 (z0i rfl (At.bool (At.proj (g.atVar (j := 4) rfl) zdj))) (W.pv (.bool (e.neg == i.neg)) (zku ov ov un4) (.nil (.cond (b := (e.neg == i.neg)) rfl rfl (fun ak => ?_) (fun ak => ?_)))))
 .have cF := z01 ak bm
  refine .seq (.draw2 (M := [0, 1, 0, 0, 12, 0, 63, 127]) mixed (by kernel_rfl) (by kernel_rfl) fun ej ek cG el => ?_)
  have al := g.ext cG
  refine D2.pv (padd (.pointer (some ⟨aZ, 0, none⟩)) 0) (z0f zhq ov (al.atVar (j := 5) rfl)) (D2.l1 (.bool e.neg) ag4 (z0i rfl (At.bool (At.proj (al.atVar (j := 5) rfl) zdj))) z08 (D2.p2 f (D2.p2 c ?_)))
  obtain ⟨em, cH, cI, cJ⟩ := al.frzSl (j := 2) rfl
  obtain ⟨en, cK, bq, cL⟩ := cH.frzSl (j := 1) rfl
  obtain ⟨cM, cN, cO⟩ := z00 cF
  refine D2.lo rfl rfl (Lo.qF Tryz.f84 (ps := []) (pw := fun w => [_]) (mc rfl (mc rfl mn)) cK (fun l a => zfq K f aP (RT.mono _ bq cJ) c I cL a _ cN)) ?_ z08 ?_ ?_
  .rintro br bs ⟨am, bt, an, ao, P, rfl⟩; exact (faR1 (.inr (smI (j := 3) P)) z08)
  .rintro br bs ⟨am, bt, an, ao, P, rfl⟩; exact z08
  rintro br bs ⟨am, bt, an, ao, P, rfl⟩
  refine D2.p2 d ?_
  obtain ⟨eo, cP, cR, cS⟩ := an.frzSl (j := 0) rfl
  obtain ⟨ep, cT, bu, cU⟩ := cP.frzSl (j := 0) rfl
  obtain ⟨cV, cW, cX⟩ := z00 cO
  refine D2.lo rfl rfl (Lo.cQ Tryz.f83 (mc rfl (mc rfl (mc rfl mn))) cT (fun l a => zam K e.neg am cM (RT.mono _ bu cS) d aj cU a _ cW)) ?_ (faK z08) ?_ ?_
  .rintro bv bw ⟨bx, ap, aq, aT, ⟨ar, rfl, au⟩⟩; exact (faI z08)
  .rintro bv bw ⟨bx, ap, aq, aT, ⟨ar, rfl, au⟩⟩; exact z08
  rintro bv bw ⟨bx, ap, aq, aT, ⟨ar, rfl, au⟩⟩
  have d6 := zAe B (zAe Z (zAe m (zAe x (zAe y (zAe q (zAe z (zAe cI (zAe bq (zAe ao (zAe cR (zAe bu aq)))))))))))
  refine D2.lo rfl rfl (Lo.storeVar (j := 0) (s := T_Q) (y0 := cV) (v := (.agg ar.toArray)) (o := 0) rfl ((Put.at (Put.self _) _ _)) rfl sz73 rfl (by omega) rfl au ap) ?_ (faK (faK z08)) ?_ ?_
  .rintro bz bA ⟨S, aU⟩; exact (faI z08)
  .rintro bz bA ⟨S, aU⟩; exact z08
  rintro bz bA ⟨S, aU⟩
  refine .nil (.ret ?_)
  obtain ⟨bB, cY, bC⟩ := (S.atVar (j := 0) rfl)
  have cZ := ((S.drop 0).drop 0).drop 0
  obtain rfl := zAa cX
  exact z1m kr (v1 := (.agg bB.toArray)) (by rfl) (z5f (p := (.pointer (some ⟨Y, 0, none⟩))) (by rfl) ag73 sz73 (by exact rfl) cY (RT.len _ bC)) cZ d6 ⟨bB, rfl, bC⟩
 have c0 := z0h ak bm
 refine .skip (.seq (.seq (.region (W.p2 f (W.p2 c ?_)))))
 obtain ⟨eq, c1, bD, av⟩ := g.frzSl (j := 2) rfl
 obtain ⟨er, c2, A, aw⟩ := c1.frzSl (j := 1) rfl
 obtain ⟨bE, c3, bF⟩ := z00 c0
 refine W.ln (Lo.cQ Tryz.f78 (mc rfl (mc rfl mn)) c2 (fun l a => z75 K f aP (RT.mono _ A av) c I aw a _ c3)) ?_
 rintro es et ⟨eu, bG, t, d9, rfl⟩
 refine W.p3 (.bool (decide (bE >= 0))) (.nil (.cond (b := decide (bE >= 0)) rfl rfl (fun ax => ?_) (fun ax => ?_)))
 .have c4 := z01 ax bF
  refine .seq (.draw2 (M := [0, 1, 0, 0, 12, 0, 63, 127]) mixed (by kernel_rfl) (by kernel_rfl) fun ev ew c5 ex => ?_)
  have ay := bG.ext c5
  refine D2.pv (padd (.pointer (some ⟨aZ, 0, none⟩)) 0) (z0f zhq ov (ay.atVar (j := 3) rfl)) (D2.l1 (.bool e.neg) ag4 (z0i rfl (At.bool (At.proj (ay.atVar (j := 3) rfl) zdj))) z08 (D2.p2 f (D2.p2 c ?_)))
  obtain ⟨c6, c7, c8⟩ := z00 c4
  refine D2.lo rfl rfl (Lo.qF Tryz.f85 (ps := []) (pw := fun w => [_]) (mc rfl (mc rfl mn)) ay (fun l a => zbf K f aP (RT.mono _ (zAe A t) av) c I (RT.mono _ t aw) a _ c7)) ?_ z08 ?_ ?_
  .rintro bH bI ⟨az, bJ, aA, aB, T, rfl⟩; exact (faR1 (.inr (smI (j := 3) T)) z08)
  .rintro bH bI ⟨az, bJ, aA, aB, T, rfl⟩; exact z08
  rintro bH bI ⟨az, bJ, aA, aB, T, rfl⟩
  refine D2.p2 d ?_
  obtain ⟨ey, c9, da, db⟩ := aA.frzSl (j := 0) rfl
  obtain ⟨ez, dc, bK, dd⟩ := c9.frzSl (j := 0) rfl
  obtain ⟨de, df, dg⟩ := z00 c8
  refine D2.lo rfl rfl (Lo.cQ Tryz.f83 (mc rfl (mc rfl (mc rfl mn))) dc (fun l a => zam K e.neg az c6 (RT.mono _ bK db) d aj dd a _ df)) ?_ (faK z08) ?_ ?_
  .rintro bL bM ⟨bN, aC, aD, aV, ⟨aE, rfl, aF⟩⟩; exact (faI z08)
  .rintro bL bM ⟨bN, aC, aD, aV, ⟨aE, rfl, aF⟩⟩; exact z08
  rintro bL bM ⟨bN, aC, aD, aV, ⟨aE, rfl, aF⟩⟩
  have d7 := zAe B (zAe Z (zAe m (zAe x (zAe y (zAe q (zAe z (zAe bD (zAe A (zAe t (zAe aB (zAe da (zAe bK aD))))))))))))
  refine D2.lo rfl rfl (Lo.storeVar (j := 0) (s := T_Q) (y0 := de) (v := (.agg aE.toArray)) (o := 0) rfl ((Put.at (Put.self _) _ _)) rfl sz73 rfl (by omega) rfl aF aC) ?_ (faK (faK z08)) ?_ ?_
  .rintro bO bP ⟨U, aW⟩; exact (faI z08)
  .rintro bO bP ⟨U, aW⟩; exact z08
  rintro bO bP ⟨U, aW⟩
  refine .nil (.ret ?_)
  obtain ⟨bQ, dh, bR⟩ := (U.atVar (j := 0) rfl)
  have di := ((U.drop 0).drop 0).drop 0
  obtain rfl := zAa dg
  exact z1m kr (v1 := (.agg bQ.toArray)) (by rfl) (z5f (p := (.pointer (some ⟨Y, 0, none⟩))) (by rfl) ag73 sz73 (by exact rfl) dh (RT.len _ bR)) di d7 ⟨bQ, rfl, bR⟩
 have dj := z0h ax bF
 refine .skip (.seq (.draw2 (M := [0, 1, 0, 0, 12, 0, 63, 127]) mixed (by kernel_rfl) (by kernel_rfl) fun eA eB dk eC => ?_))
 have aG := bG.ext dk
 refine D2.pv (padd (.pointer (some ⟨b3, 0, none⟩)) 0) (z0f zhq ov (aG.atVar (j := 2) rfl)) (D2.l1 (.bool i.neg) ag4 (z0i rfl (At.bool (At.proj (aG.atVar (j := 2) rfl) zdj))) z08 (D2.p2 c (D2.p2 f ?_)))
 obtain ⟨dl, dm, dn⟩ := z00 dj
 refine D2.lo rfl rfl (Lo.qF Tryz.f85 (ps := []) (pw := fun w => [_]) (mc rfl (mc rfl mn)) aG (fun l a => zbf K c I (RT.mono _ t aw) f aP (RT.mono _ (zAe A t) av) a _ dm)) ?_ z08 ?_ ?_
 .rintro bS bT ⟨aH, bU, aI, aJ, V, rfl⟩; exact (faR1 (.inr (smI (j := 2) V)) z08)
 .rintro bS bT ⟨aH, bU, aI, aJ, V, rfl⟩; exact z08
 rintro bS bT ⟨aH, bU, aI, aJ, V, rfl⟩
 refine D2.p2 d ?_
 obtain ⟨eD, dp, dq, dr⟩ := aI.frzSl (j := 0) rfl
 obtain ⟨eE, ds, bV, dt⟩ := dp.frzSl (j := 0) rfl
 obtain ⟨du, dv, dw⟩ := z00 dn
 refine D2.lo rfl rfl (Lo.cQ Tryz.f83 (mc rfl (mc rfl (mc rfl mn))) ds (fun l a => zam K i.neg aH dl (RT.mono _ bV dr) d aj dt a _ dv)) ?_ (faK z08) ?_ ?_
 .rintro bW bX ⟨bY, aK, aL, aX, ⟨aM, rfl, aN⟩⟩; exact (faI z08)
 .rintro bW bX ⟨bY, aK, aL, aX, ⟨aM, rfl, aN⟩⟩; exact z08
 rintro bW bX ⟨bY, aK, aL, aX, ⟨aM, rfl, aN⟩⟩
 have d8 := zAe B (zAe Z (zAe m (zAe x (zAe y (zAe q (zAe z (zAe bD (zAe A (zAe t (zAe aJ (zAe dq (zAe bV aL))))))))))))
 refine D2.lo rfl rfl (Lo.storeVar (j := 0) (s := T_Q) (y0 := du) (v := (.agg aM.toArray)) (o := 0) rfl ((Put.at (Put.self _) _ _)) rfl sz73 rfl (by omega) rfl aN aK) ?_ (faK (faK z08)) ?_ ?_
 .rintro bZ b0 ⟨X, aY⟩; exact (faI z08)
 .rintro bZ b0 ⟨X, aY⟩; exact z08
 rintro bZ b0 ⟨X, aY⟩
 refine .nil (.ret ?_)
 obtain ⟨b1, dx, b2⟩ := (X.atVar (j := 0) rfl)
 have dy := ((X.drop 0).drop 0).drop 0
 obtain rfl := zAa dw
 exact z1m kr (v1 := (.agg b1.toArray)) (by rfl) (z5f (p := (.pointer (some ⟨Y, 0, none⟩))) (by rfl) ag73 sz73 (by exact rfl) dx (RT.len _ b2)) dy d8 ⟨b1, rfl, b2⟩
def z85 (K : Nat) (c : Q) (d : Q) : Option Q := ((z82 K d).bind fun a => ((z84 K c a).bind fun b => some b))
theorem zfs (U : List Value) (u : Q) (X : T_Q.rep G U u) (v1 : List Value) (w : Q) (Y : T_Q.rep G v1 w) (O : Ow G H (L)) (r : Q) (h : z85 K u w = some r) :
    CR Tryz.prog 53 [.agg U.toArray, .agg v1.toArray] G H (L) (fun v an _ => ∃ (Z : List Value), v = .agg Z.toArray /\ T_Q.rep an Z r) := by
 unfold z85 at h
 refine CR.og (n := 9) (fn := Tryz.f53) (by kernel_rfl) rfl rfl fun R kr => (.seq (.region (W.ln (Lo.box (r := T_Q) (x0 := u) (v := (.agg U.toArray)) rfl rfl X O) ?_)))
 rintro aC aD ⟨aE, rfl, ao, au⟩
 refine W.ln (Lo.box (r := T_Q) (x0 := w) (v := (.agg v1.toArray)) rfl rfl Y ao) ?_
 rintro aF av ⟨aG, rfl, ap, aw⟩
 refine W.ln (Lo.alloc (r := T_Q) (x0 := (Q.mk false [] [])) ze73 (by kernel_rfl) z_Q ap) ?_
 rintro ax ay ⟨aa, rfl, ab, aq⟩
 refine .nil (.seq (.draw2 (M := [0, 0, 2, 7, 15]) mixed (by kernel_rfl) (by kernel_rfl) fun az aA ac aB => ?_))
 have d := ab.ext ac
 obtain ⟨x, ad, y⟩ := (d.atVar (j := 2) rfl)
 refine D2.loadA' (cs := x) rfl rfl ag73 sz73 (z0i rfl ad) (RT.len _ y) z08 ?_
 obtain ⟨z, ae, A⟩ := (d.atVar (j := 1) rfl)
 refine D2.loadA' (cs := z) rfl rfl ag73 sz73 (z0i rfl ae) (RT.len _ A) z08 ?_
 obtain ⟨af, ag, ah⟩ := z00 h
 refine D2.lo rfl rfl (Lo.cQ Tryz.f69 (mc rfl mn) d (fun ar V => zfp K z w A V _ ag)) ?_ z08 ?_ ?_
 .rintro B C ⟨E, e, b, a, ⟨f, rfl, g⟩⟩; exact (faI (faR1 (.inr (smI (j := 2) a)) z08))
 .rintro B C ⟨E, e, b, a, ⟨f, rfl, g⟩⟩; exact z08
 rintro B C ⟨E, e, b, a, ⟨f, rfl, g⟩⟩
 obtain ⟨ai, aj, ak⟩ := z00 ah
 refine D2.lo rfl rfl (Lo.cQ Tryz.f68 (mc rfl (mc rfl mn)) e (fun ar V => zfr K x u (RT.mono _ b y) f af g V _ aj)) ?_ (faK z08) ?_ ?_
 .rintro F I ⟨J, i, k, l, ⟨m, rfl, q⟩⟩; exact (faI (faI z08))
 .rintro F I ⟨J, i, k, l, ⟨m, rfl, q⟩⟩; exact z08
 rintro F I ⟨J, i, k, l, ⟨m, rfl, q⟩⟩
 refine D2.lo rfl rfl (Lo.storeVar (j := 0) (s := T_Q) (y0 := ai) (v := (.agg m.toArray)) (o := 0) rfl ((Put.at (Put.self _) _ _)) rfl sz73 rfl (by omega) rfl q i) ?_ (faK (faK z08)) ?_ ?_
 .rintro N P ⟨c, t⟩; exact (faI (faI z08))
 .rintro N P ⟨c, t⟩; exact z08
 rintro N P ⟨c, t⟩
 refine .nil (.ret ?_)
 obtain ⟨S, al, T⟩ := (c.atVar (j := 0) rfl)
 have am := ((c.drop 0).drop 0).drop 0
 obtain rfl := zAa ak
 exact z1m kr (v1 := (.agg S.toArray)) (by rfl) (z5f (p := (.pointer (some ⟨aa, 0, none⟩))) (by rfl) ag73 sz73 (by exact rfl) al (RT.len _ T)) am (zAe b k) ⟨S, rfl, T⟩
def z7l (K : Nat) (a : Q) : Option Int := (if ((a.num.length : Int) == 0) = true then some 0 else (if a.neg = true then some (-1) else some 1))
theorem zeh (f : List Value) (a : Q) (i : T_Q.rep G f a) (O : Ow G H (L)) (r : Int) (h : z7l K a = some r) :
    CR Tryz.prog 54 [.agg f.toArray] G H (L) (fun v y _ => v = .int .i64 r) := by
 unfold z7l at h
 refine CR.og (n := 11) (fn := Tryz.f54) (by kernel_rfl) rfl rfl fun R kr => (.seq (.region (W.ln (Lo.box (r := T_Q) (x0 := a) (v := (.agg f.toArray)) rfl rfl i O) ?_)))
 rintro z A ⟨k, rfl, c, x⟩
 refine W.p1 (.int .i64 0) (.nil (.seq (.block (.seq (.region (W.pv (padd (.pointer (some ⟨k, 0, none⟩)) 1) (z0f zgq ov (c.atVar (j := 0) rfl)) ?_))))))
 obtain ⟨t, u, w⟩ := At.sl (At.proj (c.atVar (j := 0) rfl) zc8)
 refine W.l1 t ag71 (z0i rfl u) (W.pv (.int .i64 (a.num.length : Int)) (z0q ov (z0g w) (z05 el71)) (W.p3 (.bool ((a.num.length : Int) == 0)) (W.p1 (.bool ((a.num.length : Int) == 0)) (.nil (.cond (b := ((a.num.length : Int) == 0)) rfl rfl (fun g => ?_) (fun g => ?_))))))
 .have l := z01 g h
  refine .seq (.region (W.p1 (.int .i64 0) (.nil (.ret ?_))))
  have m := c.drop 0
  obtain rfl := zAa l
  exact z1m kr (v1 := (.int .i64 0)) (by rfl) rt m (zAf _) rfl
 have e := z0h g h
 refine .seq (.region (W.pv (padd (.pointer (some ⟨k, 0, none⟩)) 0) (z0f zhq ov (c.atVar (j := 0) rfl)) (W.l1 (.bool a.neg) ag4 (z0i rfl (At.bool (At.proj (c.atVar (j := 0) rfl) zdj))) (W.p1 (.bool a.neg) (.nil (.cond (b := a.neg) rfl rfl (fun d => ?_) (fun d => ?_)))))))
 .have o := z01 d e
  refine .seq (.region (W.p1 (.int .i64 (-1)) (.nil (.ret ?_))))
  have p := c.drop 0
  obtain rfl := zAa o
  exact z1m kr (v1 := (.int .i64 (-1))) (by rfl) rt p (zAf _) rfl
 have q := z0h d e
 refine .skip (.seq (.region (W.p1 (.int .i64 1) (.nil (.ret ?_)))))
 have s := c.drop 0
 obtain rfl := zAa q
 exact z1m kr (v1 := (.int .i64 1)) (by rfl) rt s (zAf _) rfl
def z6d (K : Nat) (c : Q) (d : Q) : Option Int := ((z85 K c d).bind fun a => ((z7l K a).bind fun b => some b))
theorem zbg (i : List Value) (a : Q) (m : T_Q.rep G i a) (v1 : List Value) (b : Q) (o : T_Q.rep G v1 b) (O : Ow G H (L)) (r : Int) (h : z6d K a b = some r) :
    CR Tryz.prog 26 [.agg i.toArray, .agg v1.toArray] G H (L) (fun v ab _ => v = .int .i64 r) := by
 unfold z6d at h
 refine CR.og (n := 9) (fn := Tryz.f26) (by kernel_rfl) rfl rfl fun R kr => (.seq (.region (W.ln (Lo.box (r := T_Q) (x0 := a) (v := (.agg i.toArray)) rfl rfl m O) ?_)))
 rintro ac ad ⟨ae, rfl, I, P⟩
 refine W.ln (Lo.box (r := T_Q) (x0 := b) (v := (.agg v1.toArray)) rfl rfl o I) ?_
 rintro af S ⟨ag, rfl, k, T⟩
 refine W.p1 (.int .i64 0) (.nil (.seq (.region ?_)))
 obtain ⟨c, p, d⟩ := (k.atVar (j := 1) rfl)
 refine W.loadA (cs := c) rfl rfl ag73 sz73 (z0i rfl p) (RT.len _ d) ?_
 obtain ⟨e, q, f⟩ := (k.atVar (j := 0) rfl)
 refine W.loadA (cs := e) rfl rfl ag73 sz73 (z0i rfl q) (RT.len _ f) ?_
 obtain ⟨s, t, u⟩ := z00 h
 refine W.ln (Lo.cQ Tryz.f53 (mc rfl (mc rfl mn)) k (fun J l => zfs K c a d e b f l _ t)) ?_
 rintro U V ⟨X, w, x, M, ⟨y, rfl, z⟩⟩
 obtain ⟨g, A, B⟩ := z00 u
 refine W.ln (Lo.cQ Tryz.f54 (mc rfl mn) w (fun J l => zeh K y s z l _ A)) ?_
 rintro Y Z ⟨aa, C, E, N, rfl⟩
 refine W.p1 (.int .i64 g) (.nil (.ret ?_))
 have F := (C.drop 0).drop 0
 obtain rfl := zAa B
 exact z1m kr (v1 := (.int .i64 g)) (by rfl) rt F (zAe x E) rfl
def z16 (K : Nat) (b : Rating_Watch) : Nat -> List zAd -> Int -> Option (List zAd)
  | 0, _, _ => none
  | k + 1, c, a => (if (decide (a < (b.branches.length : Int))) = true then (Option.bind (((idx b.branches a).bind fun d => ((idx b.over a).bind fun e => (if e = true then (if c.length + [d.Name].length <= 16777216 then some (c ++ [d.Name]) else none) else some c)))) (tu1 fun f => z16 K b k f (z03 .i64 (a + 1)))) else some c)
def z1n (K : Nat) (a : Rating_Watch) : Option (List zAd × Rating_Watch) := (Option.bind (z16 K a K [] 0) (tu1 fun b => some (b, a)))
theorem z6s (e : Nat) (v0_1 v0_2 v0_3 : Value) (a : Rating_Watch) (O : Ow G H (eVar e 62 z06 (a, v0_1, v0_2, v0_3) :: eSl v0_1 3 (rI .i64) a.used :: eSl v0_2 4 rB a.above :: eSl v0_3 4 rB a.over :: L)) (r : List zAd × Rating_Watch) (h : z1n K a = some r) :
    CRF Tryz.prog 13 [.pointer (some ⟨e, 0, none⟩)] G H (fun M => (eSl M 9 rS r.1 :: eVar e 62 z06 (r.2, v0_1, v0_2, v0_3) :: eSl v0_1 3 (rI .i64) r.2.used :: eSl v0_2 4 rB r.2.above :: eSl v0_3 4 rB r.2.over :: L)) (fun M v g => M = v) := by
 unfold z1n at h
 refine CRF.og (n := 30) (fn := Tryz.f13) (by kernel_rfl) rfl rfl fun R kr => (.seq (.region (W.p1 (.slice none 0 0) (.nil (.seq (.region ?_))))))
 refine W.p1 (.slice none 0 0) (.nil (.seq (.seq (.region (W.p2 (.pointer (some ⟨e, 0, none⟩)) (W.pv (.pointer (some ⟨e, 0, none⟩)) (z4l ov (O.atVar (j := 0) rfl)) ?_))))))
 refine W.pv (padd (.pointer (some ⟨e, 0, none⟩)) 0) (z0f znp ov (O.atVar (j := 0) rfl)) ?_
 obtain ⟨V, aG, N⟩ := At.sl (At.proj (O.atVar (j := 0) rfl) z2k)
 refine W.l1 V ag24 (z0i rfl aG) (W.pv (.int .i64 (a.branches.length : Int)) (z0q ov (z0g N) (z05 el24)) (W.p2 (.int .i64 0) (.nil ?_)))
 obtain ⟨X, aH, aI⟩ := z00 h
 refine AW.midT (fun f u => ∃ (k : List zAd) (g : GM), k = X /\ Ow g u (eVar e 62 z06 (a, v0_1, v0_2, v0_3) :: eSl v0_1 3 (rI .i64) a.used :: eSl v0_2 4 rB a.above :: eSl v0_3 4 rB a.over :: eSl (f 3) 9 rS k :: L) /\ GM.le G g) ?_ ?_
 rotate_left
 .rintro i aR aJ ⟨aS, aT, rfl, Y, Z⟩
  have aa := z0a aI
  refine .seq (.region (W.p2 (i 3) (W.p1 (i 3) (.nil (.ret ?_)))))
  have ab := ((((Y.front (j := 3) rfl).front (j := 3) rfl).front (j := 3) rfl).front (j := 3) rfl).front (j := 4) rfl
  obtain rfl := zAa aa
  exact z4j kr (i 3) (v1 := (i 3)) (by rfl) rt ab Z rfl
 refine .block ?_
 have aK := O.nilSl 9 rS
 refine AW.loop (α := Nat) (fun P f u => ∃ (k : List zAd) (ac : Int) (g : GM), z16 K a P k ac = some X /\ Ow g u (eSl (f 3) 9 rS k :: eVar e 62 z06 (a, v0_1, v0_2, v0_3) :: eSl v0_1 3 (rI .i64) a.used :: eSl v0_2 4 rB a.above :: eSl v0_3 4 rB a.over :: L) /\ GM.le G g /\ f 11 = .int .i64 ac) (fun P => P) K ⟨[], 0, _, aH, aK, (zAf _), rfl⟩ ?_
 rintro S
 rintro w aU p ⟨T, c, ad, q, x, l, t⟩
 rcases S with _ | S
 .exact z09 q
 rw [z16] at q
 refine .seq (.region (W.q3 (.bool (decide (c < (a.branches.length : Int)))) t (ft (p 10 rfl) rfl) (.nil (.seq (.cond (b := decide (c < (a.branches.length : Int))) rfl rfl (fun y => ?_) (fun y => ?_))))))
 rotate_left
 .have ae := z0h y q
  refine .exit ?_
  have af := ((((x.front (j := 0) rfl).front (j := 4) rfl).front (j := 4) rfl).front (j := 4) rfl).front (j := 4) rfl
  obtain rfl := zAa ae
  exact ⟨T, _, rfl, af, l⟩
 have ag := z01 y q
 refine .skip (.seq ?_)
 obtain ⟨ah, ai, aj⟩ := z00 ag
 refine AW.midT (fun f u => ∃ (k : List zAd) (g : GM), k = ah /\ Ow g u (eSl (f 3) 9 rS k :: eVar e 62 z06 (a, v0_1, v0_2, v0_3) :: eSl v0_1 3 (rI .i64) a.used :: eSl v0_2 4 rB a.above :: eSl v0_3 4 rB a.over :: L) /\ GM.le ad g) ?_ ?_
 rotate_left
 .rintro aL aV U ⟨ak, aW, rfl, al, am⟩
  have an := z0a aj
  refine .region (W.q3 (.int .i64 (z03 .i64 (c + 1))) (ft (U 11 rfl) t) rfl (W.p2 (.int .i64 (z03 .i64 (c + 1))) (.nil ?_)))
  exact ⟨S, zAg _, ⟨ak, z03 .i64 (c + 1), _, an, al, (zAe l am), rfl⟩⟩
 refine .block (.seq (.region (W.q2 _ t ?_)))
 obtain ⟨m, ao, ap⟩ := z00 ai
 have z := z0c ao
 refine W.pv (z1v V (c.toNat * 9)) (z2a el24 sz50 (ou (ft (p 9 rfl) rfl)) (ou t) (z0g (RT.mono _ l N)) z.1 z.2.1) ?_
 obtain ⟨C, aq, E⟩ := (At.le (At.le (z1h N z.2.2) l l) (zAf _) x.fro)
 refine W.loadA (cs := C) rfl rfl ag50 sz50 (z0i rfl aq) (RT.len _ E) (W.ln (Lo.alloc (r := z0d) (x0 := (Branch.mk ByteArray.empty ByteArray.empty ByteArray.empty 0 0 0 0 0 0)) ze50 (by kernel_rfl) zai x) ?_)
 rintro aX aY ⟨ar, rfl, au, aM⟩
 refine W.p1 (.int .i64 c) (W.ln (Lo.storeVar (j := 0) (s := z0d) (y0 := m) (v := (.agg C.toArray)) (o := 0) rfl ((Put.at (Put.self _) _ _)) rfl sz50 rfl (by omega) rfl E au) ?_)
 rintro aZ a0 ⟨d, aN⟩
 refine .nil (.seq (.region (W.q2 (.pointer (some ⟨e, 0, none⟩)) (ft (p 0 rfl) rfl) (W.pv (.pointer (some ⟨e, 0, none⟩)) (z4l ov (d.atVar (j := 2) rfl)) (W.pv (padd (.pointer (some ⟨e, 0, none⟩)) 3) (z0f zlf ov (d.atVar (j := 2) rfl)) (W.l1 v0_3 ag43 (z0i rfl (At.raw (At.proj (d.atVar (j := 2) rfl) z2q))) ?_))))))
 refine W.p2 (.int .i64 c) ?_
 obtain ⟨F, av, I⟩ := z00 ap
 have A := z0c av
 refine W.pv (z1v v0_3 (c.toNat * 1)) (z2a el43 sz4 ov ov (d.slLen (j := 5) rfl) A.1 A.2.1) (W.l1 (.bool F) ag4 (z0i rfl (At.bool (d.atSl (j := 5) rfl A.2.2))) (.nil (.cond (b := F) rfl rfl (fun B => ?_) (fun B => ?_))))
 rotate_left
 .have aw := z0h B I
  refine .skip ?_
  have ax := d.drop 0
  obtain rfl := zAa aw
  exact ⟨T, _, rfl, ax, (zAf _)⟩
 have ay := z01 B I
 refine .region (W.p2 (w 3) (W.pv (padd (.pointer (some ⟨ar, 0, none⟩)) 0) (z0f zje ov (d.atVar (j := 0) rfl)) (W.l1 (.string m.Name) ag9 (z0i rfl (At.str (At.proj (d.atVar (j := 0) rfl) z5m))) (W.ln (Lo.buildSlice (r := rS) (vs := [(.string m.Name)]) (xs := [m.Name]) el22 ze9 sz9 (by kernel_rfl) rfl (qc rfl qn) rfl (.cons rfl .nil) d) ?_))))
 rintro a1 a2 ⟨J, aO⟩
 obtain ⟨aP, az, aA⟩ := z4a (j := 0) rfl J
 obtain ⟨aB, aC⟩ := z2b ay
 refine W.ln (Lo.append (j := 2) (v := (w 3)) rfl rfl el22 ni22 ze9 sz9 by9 (by decide) (by decide) rfl az aA aB J) ?_
 rintro aD a3 ⟨aE, aQ⟩
 refine W.p1 aD (.nil ?_)
 have aF := (aE.drop 0).drop 0
 obtain rfl := zAa aC
 exact ⟨(T ++ [m.Name]), _, rfl, aF, (zAf _)⟩
def z0w (K : Nat) (h : Rating_Watch) (u : List zAd) (g : Int) : Nat -> List Int -> List Bool -> List Bool -> Int -> Option (List Int × List Bool × List Bool)
  | 0, _, _, _, _ => none
  | k + 1, c, d, b, a => (lt (decide (a < ((({ h with time := z03 .i64 (h.time + g) }).branches).length : Int))) fun v => (if v = true then (Option.bind (((idx (({ h with time := z03 .i64 (h.time + g) }).branches) a).bind fun i => ((idx u a).bind fun w => ((zdk K w).bind fun x => ((za1 K x).bind fun j => ((z8i K i.Limit).bind fun l => ((z6d K j l).bind fun e => ((idx d a).bind fun y => ((idx (List.set d (a.toNat) (decide (e > 0))) a).bind fun m => (if (!m) = true then ((idx c a).bind fun z => ((idx b a).bind fun A => some ((List.set c (a.toNat) 0), (List.set d (a.toNat) (decide (e > 0))), (List.set b (a.toNat) false)))) else ((idx c a).bind fun f => ((idx c a).bind fun B => ((idx b a).bind fun n => (if n = true then ((idx b a).bind fun C => some ((List.set c (a.toNat) (z03 .i64 (f + g))), (List.set d (a.toNat) (decide (e > 0))), (List.set b (a.toNat) true))) else ((idx (List.set c (a.toNat) (z03 .i64 (f + g))) a).bind fun o => (if (decide (o > i.Hold)) = true then ((idx b a).bind fun E => some ((List.set c (a.toNat) (z03 .i64 (f + g))), (List.set d (a.toNat) (decide (e > 0))), (List.set b (a.toNat) true))) else ((z8i K i.Short).bind fun p => ((z6d K j p).bind fun q => ((idx b a).bind fun F => some ((List.set c (a.toNat) (z03 .i64 (f + g))), (List.set d (a.toNat) (decide (e > 0))), (List.set b (a.toNat) (decide (q > 0))))))))))))))))))))))) (tu3 fun r s t => z0w K h u g k r s t (z03 .i64 (a + 1)))) else some (c, d, b)))
def z1b (K : Nat) (a : Rating_Watch) (d : List zAd) (c : Int) : Option (List zAd × Int × Rating_Watch) := ((z4c K d).bind fun h => (if (h != 0) = true then some ([], h, a) else (if ((d.length : Int) != (a.branches.length : Int)) = true then some ([], 3, a) else (Option.bind ((if (decide (c < 1)) = true then some true else some (decide (c > (z03 .i64 ((200000 : Int) - a.time)))))) (tu1 fun i => (if i = true then some ([], 12, a) else (Option.bind (z0w K a d c K a.used a.above a.over 0) (tu3 fun e f g => ((z1n K ({ { a with time := z03 .i64 (a.time + c) } with used := e, above := f, over := g })).bind fun b => some (b.1, 0, b.2))))))))))
theorem z9j (e : Nat) (v0_1 v0_2 v0_3 : Value) (i : Rating_Watch) (v1 : Value) (aj : List zAd) (aS : (rSl rS).rep G [v1] aj) (p : Int) (O : Ow G H (eVar e 62 z06 (i, v0_1, v0_2, v0_3) :: eSl v0_1 3 (rI .i64) i.used :: eSl v0_2 4 rB i.above :: eSl v0_3 4 rB i.over :: L)) (r : List zAd × Int × Rating_Watch) (h : z1b K i aj p = some r) :
    CRF Tryz.prog 7 [.pointer (some ⟨e, 0, none⟩), v1, (.int .i64 p)] G H (fun b0 => (eSl b0 9 rS r.1 :: eVar e 62 z06 (r.2.2, v0_1, v0_2, v0_3) :: eSl v0_1 3 (rI .i64) r.2.2.used :: eSl v0_2 4 rB r.2.2.above :: eSl v0_3 4 rB r.2.2.over :: L)) (fun b0 v C => v = .tuple #[b0, .int .i64 r.2.1]) := by
 unfold z1b at h
 refine CRF.og (n := 138) (fn := Tryz.f7) (by kernel_rfl) rfl rfl fun R kr => (.seq (.region (W.p1 (.slice none 0 0) (W.p1 (.int .i64 0) (.nil (.seq ?_))))))
 refine .seq (.region (W.p2 v1 ?_))
 obtain ⟨ak, d2, df⟩ := z00 h
 refine W.ln (Lo.cQ Tryz.f23 (mc rfl mn) O (fun al y => zal K v1 aj aS y _ d2)) ?_
 rintro eJ eK ⟨d3, S, a2, eL, rfl⟩
 refine W.p1 (.int .i64 ak) (.nil (.seq (.region (W.p2 (.int .i64 ak) (W.p3 (.bool (ak != 0)) (.nil ?_))))))
 refine .cond (b := (ak != 0)) rfl rfl (fun a3 => ?_) (fun a3 => ?_)
 .have dg := z01 a3 df
  refine .seq (.region (W.p2 (.int .i64 ak) (W.p1 (.slice none 0 0) (W.p1 (.int .i64 ak) (.nil (.ret ?_))))))
  have dh := S.nilSl 9 rS
  obtain rfl := zAa dg
  exact zjh kr (.slice none 0 0) (v1 := (.slice none 0 0)) (v2 := (.int .i64 ak)) (by rfl) rt rt dh a2 rfl
 have bP := z0h a3 df
 refine .skip (.seq (.seq (.region (W.p2 v1 (W.pv (.int .i64 (aj.length : Int)) (z0q ov (z0g (RT.mono _ a2 aS)) (z05 el39)) (W.p2 (.pointer (some ⟨e, 0, none⟩)) ?_))))))
 refine W.pv (.pointer (some ⟨e, 0, none⟩)) (z4l ov (S.atVar (j := 0) rfl)) (W.pv (padd (.pointer (some ⟨e, 0, none⟩)) 0) (z0f znp ov (S.atVar (j := 0) rfl)) ?_)
 obtain ⟨di, dj, dk⟩ := At.sl (At.proj (S.atVar (j := 0) rfl) z2k)
 refine W.l1 di ag24 (z0i rfl dj) (W.pv (.int .i64 (i.branches.length : Int)) (z0q ov (z0g dk) (z05 el24)) (W.p3 (.bool ((aj.length : Int) != (i.branches.length : Int))) (.nil (.cond (b := ((aj.length : Int) != (i.branches.length : Int))) rfl rfl (fun a4 => ?_) (fun a4 => ?_)))))
 .have dl := z01 a4 bP
  refine .seq (.region (W.p1 (.slice none 0 0) (W.p1 (.int .i64 3) (.nil (.ret ?_)))))
  have dm := S.nilSl 9 rS
  obtain rfl := zAa dl
  exact zjh kr (.slice none 0 0) (v1 := (.slice none 0 0)) (v2 := (.int .i64 3)) (by rfl) rt rt dm a2 rfl
 have dn := z0h a4 bP
 refine .skip (.seq (.seq ?_))
 obtain ⟨dp, bQ, dq⟩ := z00 dn
 refine AW.midT (fun ad am => ∃ (I : Bool) (C : GM), I = dp /\ Ow C am (eVar e 62 z06 (i, v0_1, v0_2, v0_3) :: eSl v0_1 3 (rI .i64) i.used :: eSl v0_2 4 rB i.above :: eSl v0_3 4 rB i.over :: L) /\ GM.le d3 C /\ ad 35 = .bool I) ?_ ?_
 .refine .region (W.p2 (.int .i64 p) (W.p3 (.bool (decide (p < 1))) (W.p2 (.bool (decide (p < 1))) (W.splitAt (t := 27) (b := decide (p < 1)) rfl (fun a5 k => ?_) (fun a5 k => ?_)))))
  .have dr := z01 a5 bQ
   refine W.q6 rfl k (W.q6 rfl k (W.q6 rfl k (W.q6 rfl k (W.q6 rfl k (W.q6 rfl k (W.q6 rfl k ?_))))))
   refine W.q4 (.bool true) k rfl (.nil ?_)
   obtain rfl := zAa dr
   exact ⟨true, _, rfl, S, (zAf _), rfl⟩
  have ds := z0h a5 bQ
  refine W.q2 (hg := gk rfl rfl k rfl) (.int .i64 p) rfl (W.q2 (hg := gk rfl rfl k rfl) (.pointer (some ⟨e, 0, none⟩)) rfl (W.pure (v := (.pointer (some ⟨e, 0, none⟩))) (gl rfl k) rfl (z4l ov (S.atVar (j := 0) rfl)) (W.pure (v := (padd (.pointer (some ⟨e, 0, none⟩)) 4)) (gl rfl k) rfl (z0f znr ov (S.atVar (j := 0) rfl)) (W.load1 (v := (.int .i64 i.time)) (r := []) (gl rfl k) rfl ag3 (z0i rfl (At.int (At.proj (S.atVar (j := 0) rfl) z4q))) (W.q3 (hg := gk rfl rfl k rfl) (.int .i64 (z03 .i64 ((200000 : Int) - i.time))) rfl rfl (W.q3 (hg := gk rfl rfl k rfl) (.bool (decide (p > (z03 .i64 ((200000 : Int) - i.time))))) rfl rfl ?_))))))
  refine W.q5 (.bool (decide (p > (z03 .i64 ((200000 : Int) - i.time))))) k rfl (.nil ?_)
  obtain rfl := zAa ds
  exact ⟨decide (p > (z03 .i64 ((200000 : Int) - i.time))), _, rfl, S, (zAf _), rfl⟩
 rintro d4 eM m ⟨dt, bR, rfl, J, a6, du⟩
 have bS := z0a dq
 refine .cond (b := dt) rfl du (fun a7 => ?_) (fun a7 => ?_)
 .have dv := z01 a7 bS
  refine .seq (.region (W.p1 (.slice none 0 0) (W.p1 (.int .i64 12) (.nil (.ret ?_)))))
  have dw := J.nilSl 9 rS
  obtain rfl := zAa dv
  exact zjh kr (.slice none 0 0) (v1 := (.slice none 0 0)) (v2 := (.int .i64 12)) (by rfl) rt rt dw (zAe a2 a6) rfl
 have dx := z0h a7 bS
 refine .skip (.seq (.region (W.q2 (.pointer (some ⟨e, 0, none⟩)) (ft (m 0 rfl) rfl) (W.pv (.pointer (some ⟨e, 0, none⟩)) (z4l ov (J.atVar (j := 0) rfl)) (W.pv (padd (.pointer (some ⟨e, 0, none⟩)) 4) (z0f znr ov (J.atVar (j := 0) rfl)) (W.l1 (.int .i64 i.time) ag3 (z0i rfl (At.int (At.proj (J.atVar (j := 0) rfl) z4q))) ?_))))))
 refine W.q2 (.int .i64 p) (ft (m 2 rfl) rfl) (W.p3 (.int .i64 (z03 .i64 (i.time + p))) (W.pv (.pointer (some ⟨e, 0, none⟩)) (z4l ov (J.atVar (j := 0) rfl)) (W.pv (padd (.pointer (some ⟨e, 0, none⟩)) 4) (z0f znr ov (J.atVar (j := 0) rfl)) (W.ln (Lo.storeVar (j := 0) (s := (rI .i64)) (y0 := z03 .i64 (i.time + p)) (v := (.int .i64 (z03 .i64 (i.time + p)))) (o := 4) rfl ((Put.at z9e _ _)) rfl sz3 rfl (by omega) rfl rfl J) ?_))))
 rintro eN eO ⟨aT, d5⟩
 refine .nil (.seq (.seq (.region (W.q2 (.pointer (some ⟨e, 0, none⟩)) (ft (m 0 rfl) rfl) (W.pv (.pointer (some ⟨e, 0, none⟩)) (z4l ov (aT.atVar (j := 0) rfl)) (W.pv (padd (.pointer (some ⟨e, 0, none⟩)) 0) (z0f znp ov (aT.atVar (j := 0) rfl)) ?_))))))
 obtain ⟨bT, dy, a8⟩ := At.sl (At.proj (aT.atVar (j := 0) rfl) z2k)
 refine W.l1 bT ag24 (z0i rfl dy) (W.pv (.int .i64 ((({ i with time := z03 .i64 (i.time + p) }).branches).length : Int)) (z0q ov (z0g a8) (z05 el24)) (W.p2 (.int .i64 0) (.nil ?_)))
 obtain ⟨bU, dz, dA⟩ := z00 dx
 refine AW.midT (fun ad am => ∃ (I : List Int) (ae : List Bool) (af : List Bool) (C : GM), (I, ae, af) = bU /\ Ow C am (eVar e 62 z06 ({ i with time := z03 .i64 (i.time + p) }, v0_1, v0_2, v0_3) :: eSl v0_1 3 (rI .i64) I :: eSl v0_2 4 rB ae :: eSl v0_3 4 rB af :: L) /\ GM.le bR C) ?_ ?_
 rotate_left
 .rintro dU d6 bN ⟨b1, b2, b3, d7, rfl, b4, b5⟩
  have b6 := zb2 dA
  refine .seq (.region (W.q2 (.pointer (some ⟨e, 0, none⟩)) (ft (bN 0 rfl) (ft (m 0 rfl) rfl)) ?_))
  obtain ⟨d8, b7, b8⟩ := z00 b6
  refine W.ln (Lo.qF Tryz.f13 (ps := [_, _, _, _]) (pw := fun w => [_, _, _, _, _]) (mc rfl mn) b4 (fun al y => z6s K e v0_1 v0_2 v0_3 ({ { i with time := z03 .i64 (i.time + p) } with used := b1, above := b2, over := b3 }) y _ b7)) ?_
  rintro d9 ea ⟨an, eb, b9, ca, dV, rfl⟩
  refine W.p1 an (W.p1 (.int .i64 0) (.nil (.ret ?_)))
  obtain rfl := zAa b8
  exact zjh kr an (v1 := an) (v2 := (.int .i64 0)) (by rfl) rt rt b9 (zAe a2 (zAe a6 (zAe b5 ca))) rfl
 refine .block (AW.loop (α := Nat) (fun cb ad am => ∃ (I : List Int) (ae : List Bool) (af : List Bool) (dB : Int) (C : GM), z0w K i aj p cb I ae af dB = some bU /\ Ow C am (eVar e 62 z06 ({ i with time := z03 .i64 (i.time + p) }, v0_1, v0_2, v0_3) :: eSl v0_1 3 (rI .i64) I :: eSl v0_2 4 rB ae :: eSl v0_3 4 rB af :: L) /\ GM.le bR C /\ ad 49 = .int .i64 dB) (fun cb => cb) K ⟨i.used, i.above, i.over, 0, _, dz, aT, (zAf _), rfl⟩ ?_)
 rintro a9
 rintro ec eP q ⟨ag, ah, ai, c, dC, ba, bb, T, aU⟩
 have bc := zAe a2 (zAe a6 T)
 rcases a9 with _ | a9
 .exact z09 ba
 rw [z0w] at ba
 refine .seq (.region (W.q3 (.bool (decide (c < ((({ i with time := z03 .i64 (i.time + p) }).branches).length : Int)))) aU (ft (q 48 rfl) rfl) ?_))
 obtain ⟨dD, dE, bV⟩ := z71 ba
 refine .nil (.seq (.cond (b := dD) rfl (congrArg (Value.bool) dE) (fun bd => ?_) (fun bd => ?_)))
 rotate_left
 .have cc := z0h bd bV
  refine .exit ?_
  obtain rfl := zAa cc
  exact ⟨ag, ah, ai, _, rfl, bb, T⟩
 have dF := z01 bd bV
 refine .skip (.seq ?_)
 obtain ⟨dG, dH, dI⟩ := z00 dF
 refine AW.midT (fun ad am => ∃ (I : List Int) (ae : List Bool) (af : List Bool) (C : GM), (I, ae, af) = dG /\ Ow C am (eVar e 62 z06 ({ i with time := z03 .i64 (i.time + p) }, v0_1, v0_2, v0_3) :: eSl v0_1 3 (rI .i64) I :: eSl v0_2 4 rB ae :: eSl v0_3 4 rB af :: L) /\ GM.le dC C) ?_ ?_
 rotate_left
 .rintro dW ed bO ⟨cd, ce, cf, ee, rfl, cg, ch⟩
  have ci := zb2 dI
  refine .region (W.q3 (.int .i64 (z03 .i64 (c + 1))) (ft (bO 49 rfl) aU) rfl (W.p2 (.int .i64 (z03 .i64 (c + 1))) (.nil ?_)))
  exact ⟨a9, zAg _, ⟨cd, ce, cf, z03 .i64 (c + 1), _, ci, cg, (zAe T ch), rfl⟩⟩
 refine .block (.seq (.region (W.q2 _ aU ?_)))
 obtain ⟨x, dJ, dK⟩ := z00 dH
 have be := z0c dJ
 refine W.pv (z1v bT (c.toNat * 9)) (z2a el24 sz50 (ou (ft (q 47 rfl) rfl)) (ou aU) (z0g (RT.mono _ T a8)) be.1 be.2.1) ?_
 obtain ⟨bW, dL, bX⟩ := (At.le (At.le (z1h a8 be.2.2) T T) (zAf _) bb.fro)
 refine W.loadA (cs := bW) rfl rfl ag50 sz50 (z0i rfl dL) (RT.len _ bX) (W.ln (Lo.alloc (r := z0d) (x0 := (Branch.mk ByteArray.empty ByteArray.empty ByteArray.empty 0 0 0 0 0 0)) ze50 (by kernel_rfl) zai bb) ?_)
 rintro eQ eR ⟨bf, rfl, dM, ef⟩
 refine W.p1 (.int .i64 c) (W.ln (Lo.storeVar (j := 0) (s := z0d) (y0 := x) (v := (.agg bW.toArray)) (o := 0) rfl ((Put.at (Put.self _) _ _)) rfl sz50 rfl (by omega) rfl bX dM) ?_)
 rintro eS eT ⟨bY, eg⟩
 refine .nil (.seq (.region (W.q2 v1 (ft (q 1 rfl) (ft (m 1 rfl) rfl)) (W.p2 (.int .i64 c) ?_))))
 obtain ⟨bZ, dN, dO⟩ := z00 dK
 have bg := z0c dN
 refine W.pv (z1v v1 (c.toNat * 1)) (z2a el39 sz57 ov ov (z0g (RT.mono _ bc aS)) bg.1 bg.2.1) (W.l1 (.string bZ) ag57 (z0i rfl (At.str (At.le (At.le (z1h aS bg.2.2) bc bc) (zAf _) bY.fro))) ?_)
 obtain ⟨dP, dQ, dR⟩ := z00 dO
 refine W.ln (Lo.cQ Tryz.f24 (mc rfl mn) bY (fun al y => zjo K bZ y _ dQ)) ?_
 rintro eh ei ⟨eU, dS, cj, dX, ⟨ck, rfl, cl⟩⟩
 obtain ⟨ao, cm, cn⟩ := z00 dR
 refine W.ln (Lo.cQ Tryz.f25 (mc rfl mn) dS (fun al y => zfo K ck dP cl y _ cm)) ?_
 rintro ej ek ⟨el, co, cp, dY, ⟨cq, rfl, cr⟩⟩
 refine W.ln (Lo.alloc (r := T_Q) (x0 := (Q.mk false [] [])) ze73 (by kernel_rfl) z_Q co) ?_
 rintro em en ⟨eo, rfl, ct, dZ⟩
 refine W.ln (Lo.storeVar (j := 0) (s := T_Q) (y0 := ao) (v := (.agg cq.toArray)) (o := 0) rfl ((Put.at (Put.self _) _ _)) rfl sz73 rfl (by omega) rfl cr ct) ?_
 rintro ep eq ⟨cu, d0⟩
 refine .nil (.seq (.draw2 (M := [0, 1, 3, 7, 0, 0, 0, 64, 192, 480, 992, 2047, 4095]) mixed (by kernel_rfl) (by kernel_rfl) fun er es cv et => ?_))
 have z := cu.ext cv
 refine D2.q2 (.pointer (some ⟨e, 0, none⟩)) (ft (q 0 rfl) (ft (m 0 rfl) rfl)) (D2.pv (.pointer (some ⟨e, 0, none⟩)) (z4l ov (z.atVar (j := 2) rfl)) (D2.pv (padd (.pointer (some ⟨e, 0, none⟩)) 2) (z0f zq3 ov (z.atVar (j := 2) rfl)) (D2.l1 v0_2 ag43 (z0i rfl (At.raw (At.proj (z.atVar (j := 2) rfl) z4i))) z08 (D2.p2 (.int .i64 c) ?_))))
 obtain ⟨bh, cw, bi⟩ := (z.atVar (j := 0) rfl)
 refine D2.loadA' (cs := bh) rfl rfl ag73 sz73 (z0i rfl cw) (RT.len _ bi) z08 (D2.pv (padd (.pointer (some ⟨bf, 0, none⟩)) 6) (z0f zjf ov (z.atVar (j := 1) rfl)) (D2.l1 (.int .i64 x.Limit) ag3 (z0i rfl (At.int (At.proj (z.atVar (j := 1) rfl) z4v))) z08 ?_))
 obtain ⟨cx, cy, cz⟩ := z00 cn
 refine D2.lo rfl rfl (Lo.cQ Tryz.f27 (mc rfl mn) z (fun al y => zdl K x.Limit y _ cy)) ?_ z08 ?_ ?_
 .rintro bj bk ⟨bl, ap, U, E, ⟨aq, rfl, ar⟩⟩; exact (faI (faR1 (.inr (smI (j := 0) E)) (faR1 (.inr (smI (j := 2) E)) z08)))
 .rintro bj bk ⟨bl, ap, U, E, ⟨aq, rfl, ar⟩⟩; exact z08
 rintro bj bk ⟨bl, ap, U, E, ⟨aq, rfl, ar⟩⟩
 obtain ⟨A, cA, cB⟩ := z00 cz
 refine D2.lo rfl rfl (Lo.cQ Tryz.f26 (mc rfl (mc rfl mn)) ap (fun al y => zbg K bh ao (RT.mono _ U bi) aq cx ar y _ cA)) ?_ (faK z08) ?_ ?_
 .rintro bm bn ⟨bo, V, au, X, rfl⟩; exact (faI (faI (faR1 (.inr (smI (j := 2) X)) z08)))
 .rintro bm bn ⟨bo, V, au, X, rfl⟩; exact z08
 rintro bm bn ⟨bo, V, au, X, rfl⟩
 have aV := zAe cj (zAe cp (zAe U au))
 refine D2.p3 (.bool (decide (A > 0))) ?_
 obtain ⟨eu, cC, cD⟩ := z00 cB
 have av := z0c cC
 refine D2.pv (z1v v0_2 (c.toNat * 1)) (z2a el43 sz4 ov ov (V.slLen (j := 4) rfl) av.1 av.2.1) (D2.lo rfl rfl (Lo.storeSl0 (j := 4) (y0 := decide (A > 0)) (v := (.bool (decide (A > 0)))) rfl av.2.2  rfl sz4 rfl rfl rfl V) ?_ (faK (faK z08)) ?_ ?_)
 .rintro bp bq ⟨l, aW⟩; exact (faI (faI (faI z08)))
 .rintro bp bq ⟨l, aW⟩; exact z08
 rintro bp bq ⟨l, aW⟩
 refine .nil (.seq (.seq (.region (W.q2 (.pointer (some ⟨e, 0, none⟩)) (ft (q 0 rfl) (ft (m 0 rfl) rfl)) (W.pv (.pointer (some ⟨e, 0, none⟩)) (z4l ov (l.atVar (j := 2) rfl)) (W.pv (padd (.pointer (some ⟨e, 0, none⟩)) 2) (z0f zq3 ov (l.atVar (j := 2) rfl)) ?_))))))
 refine W.l1 v0_2 ag43 (z0i rfl (At.raw (At.proj (l.atVar (j := 2) rfl) z4i))) (W.p2 (.int .i64 c) ?_)
 obtain ⟨Y, cE, br⟩ := z00 cD
 have aw := z0c cE
 refine W.pv (z1v v0_2 (c.toNat * 1)) (z2a el43 sz4 ov ov (l.slLen (j := 4) rfl) aw.1 aw.2.1) (W.l1 (.bool Y) ag4 (z0i rfl (At.bool (l.atSl (j := 4) rfl aw.2.2))) (W.pv (.bool (!Y)) (z1g (a := Y) ov) (.nil (.cond (b := (!Y)) rfl rfl (fun ax => ?_) (fun ax => ?_)))))
 .have cF := z01 ax br
  refine .seq (.draw2 (M := [0, 1, 3, 7, 0, 0, 32, 96, 224, 0, 511, 1535, 4095, 8191]) mixed (by kernel_rfl) (by kernel_rfl) fun ev ew cG ex => ?_)
  have u := l.ext cG
  refine D2.q2 (.pointer (some ⟨e, 0, none⟩)) (ft (q 0 rfl) (ft (m 0 rfl) rfl)) (D2.pv (.pointer (some ⟨e, 0, none⟩)) (z4l ov (u.atVar (j := 2) rfl)) (D2.pv (padd (.pointer (some ⟨e, 0, none⟩)) 1) (z0f znq ov (u.atVar (j := 2) rfl)) (D2.l1 v0_1 ag31 (z0i rfl (At.raw (At.proj (u.atVar (j := 2) rfl) z3e))) z08 (D2.p2 (.int .i64 c) (D2.q2 (.pointer (some ⟨e, 0, none⟩)) (ft (q 0 rfl) (ft (m 0 rfl) rfl)) (D2.pv (.pointer (some ⟨e, 0, none⟩)) (z4l ov (u.atVar (j := 2) rfl)) ?_))))))
  refine D2.pv (padd (.pointer (some ⟨e, 0, none⟩)) 3) (z0f zlf ov (u.atVar (j := 2) rfl)) (D2.l1 v0_3 ag43 (z0i rfl (At.raw (At.proj (u.atVar (j := 2) rfl) z2q))) z08 (D2.p2 (.int .i64 c) ?_))
  obtain ⟨ey, cH, cI⟩ := z00 cF
  have ay := z0c cH
  refine D2.pv (z1v v0_1 (c.toNat * 1)) (z2a el31 sz3 ov ov (u.slLen (j := 3) rfl) ay.1 ay.2.1) (D2.lo rfl rfl (Lo.storeSl0 (j := 3) (y0 := 0) (v := (.int .i64 0)) rfl ay.2.2  rfl sz3 rfl rfl rfl u) ?_ z08 ?_ ?_)
  .rintro bs bt ⟨Z, aX⟩; exact (faI (faI z08))
  .rintro bs bt ⟨Z, aX⟩; exact z08
  rintro bs bt ⟨Z, aX⟩
  obtain ⟨ez, cJ, cK⟩ := z00 cI
  have az := z0c cJ
  refine D2.pv (z1v v0_3 (c.toNat * 1)) (z2a el43 sz4 ov ov (Z.slLen (j := 5) rfl) az.1 az.2.1) (D2.lo rfl rfl (Lo.storeSl0 (j := 5) (y0 := false) (v := (.bool false)) rfl az.2.2  rfl sz4 rfl rfl rfl Z) ?_ (faK z08) ?_ ?_)
  .rintro bu bv ⟨aA, aY⟩; exact (faI (faI z08))
  .rintro bu bv ⟨aA, aY⟩; exact z08
  rintro bu bv ⟨aA, aY⟩
  refine .nil (.exit ?_)
  have cL := (aA.drop 0).drop 0
  obtain rfl := zAa cK
  exact ⟨(List.set ag (c.toNat) 0), (List.set ah (c.toNat) (decide (A > 0))), (List.set ai (c.toNat) false), _, rfl, cL, aV⟩
 have cM := z0h ax br
 refine .skip (.seq (.region (W.q2 (.pointer (some ⟨e, 0, none⟩)) (ft (q 0 rfl) (ft (m 0 rfl) rfl)) (W.pv (.pointer (some ⟨e, 0, none⟩)) (z4l ov (l.atVar (j := 2) rfl)) (W.pv (padd (.pointer (some ⟨e, 0, none⟩)) 1) (z0f znq ov (l.atVar (j := 2) rfl)) (W.l1 v0_1 ag31 (z0i rfl (At.raw (At.proj (l.atVar (j := 2) rfl) z3e))) ?_))))))
 refine W.p2 (.int .i64 c) ?_
 obtain ⟨B, cN, cO⟩ := z00 cM
 have aB := z0c cN
 refine W.pv (z1v v0_1 (c.toNat * 1)) (z2a el31 sz3 ov ov (l.slLen (j := 3) rfl) aB.1 aB.2.1) (W.l1 (.int .i64 B) ag3 (z0i rfl (At.int (l.atSl (j := 3) rfl aB.2.2))) (W.q2 (.int .i64 p) (ft (q 2 rfl) (ft (m 2 rfl) rfl)) (W.p3 (.int .i64 (z03 .i64 (B + p))) ?_)))
 obtain ⟨eA, cP, cR⟩ := z00 cO
 have aC := z0c cP
 refine W.pv (z1v v0_1 (c.toNat * 1)) (z2a el31 sz3 ov ov (l.slLen (j := 3) rfl) aC.1 aC.2.1) (W.ln (Lo.storeSl0 (j := 3) (y0 := z03 .i64 (B + p)) (v := (.int .i64 (z03 .i64 (B + p)))) rfl aC.2.2  rfl sz3 rfl rfl rfl l) ?_)
 rintro eB eC ⟨cS, d1⟩
 refine .nil (.draw2 (M := [0, 1, 3, 7, 0, 0, 32, 96, 224, 0, 992, 2016, 4064, 8160, 16352, 32736, 65504, 8160, 262112, 524256, 8160, 1056736, 4194272, 8388576, 16777184, 33554400, 33554400, 100663264, 234880992, 536870880, 1073741792, 2147483616, 4294967295, 8589934591]) mixed (by kernel_rfl) (by kernel_rfl) fun eD eE cT eF => ?_)
 have f := cS.ext cT
 refine D2.q2 (.pointer (some ⟨e, 0, none⟩)) (ft (q 0 rfl) (ft (m 0 rfl) rfl)) (D2.pv (.pointer (some ⟨e, 0, none⟩)) (z4l ov (f.atVar (j := 2) rfl)) (D2.pv (padd (.pointer (some ⟨e, 0, none⟩)) 3) (z0f zlf ov (f.atVar (j := 2) rfl)) (D2.l1 v0_3 ag43 (z0i rfl (At.raw (At.proj (f.atVar (j := 2) rfl) z2q))) z08 (D2.p2 (.int .i64 c) (D2.q2 (.pointer (some ⟨e, 0, none⟩)) (ft (q 0 rfl) (ft (m 0 rfl) rfl)) (D2.pv (.pointer (some ⟨e, 0, none⟩)) (z4l ov (f.atVar (j := 2) rfl)) ?_))))))
 refine D2.pv (padd (.pointer (some ⟨e, 0, none⟩)) 3) (z0f zlf ov (f.atVar (j := 2) rfl)) (D2.l1 v0_3 ag43 (z0i rfl (At.raw (At.proj (f.atVar (j := 2) rfl) z2q))) z08 (D2.p2 (.int .i64 c) ?_))
 obtain ⟨aD, cU, bw⟩ := z00 cR
 have aE := z0c cU
 refine D2.pv (z1v v0_3 (c.toNat * 1)) (z2a el43 sz4 ov ov (f.slLen (j := 5) rfl) aE.1 aE.2.1) (D2.l1 (.bool aD) ag4 (z0i rfl (At.bool (f.atSl (j := 5) rfl aE.2.2))) z08 (D2.p2 (.bool aD) (D2.splitAt (t := 114) (b := aD) rfl (fun aF d => ?_) (fun aF d => ?_))))
 .have cV := z01 aF bw
  refine D2.skip (gl rfl d) rfl (D2.skip (gl rfl d) rfl (D2.skip (gl rfl d) rfl (D2.skip (gl rfl d) rfl (D2.skip (gl rfl d) rfl (D2.skip (gl rfl d) rfl (D2.skip (gl rfl d) rfl ?_))))))
  refine D2.skip (gl rfl d) rfl (D2.skip (gl rfl d) rfl (D2.skip (gl rfl d) rfl (D2.pv (.bool true) (z68 (ou d) ov) (D2.p2 (.bool true) (D2.skip (gl rfl rfl) rfl (D2.skip (gl rfl rfl) rfl ?_))))))
  refine D2.skip (gl rfl rfl) rfl (D2.skip (gl rfl rfl) rfl (D2.skip (gl rfl rfl) rfl (D2.skip (gl rfl rfl) rfl (D2.pv (.bool true) (z68 ov ov) ?_))))
  obtain ⟨eG, cW, cX⟩ := z00 cV
  have aG := z0c cW
  refine D2.pv (z1v v0_3 (c.toNat * 1)) (z2a el43 sz4 ov ov (f.slLen (j := 5) rfl) aG.1 aG.2.1) (D2.lo rfl rfl (Lo.storeSl0 (j := 5) (y0 := true) (v := (.bool true)) rfl aG.2.2  rfl sz4 rfl rfl rfl f) ?_ z08 ?_ ?_)
  .rintro bx bz ⟨aH, aZ⟩; exact (faI (faI (faI z08)))
  .rintro bx bz ⟨aH, aZ⟩; exact z08
  rintro bx bz ⟨aH, aZ⟩
  refine .nil ?_
  have cY := (aH.drop 0).drop 0
  obtain rfl := zAa cX
  exact ⟨(List.set ag (c.toNat) (z03 .i64 (B + p))), (List.set ah (c.toNat) (decide (A > 0))), (List.set ai (c.toNat) true), _, rfl, cY, aV⟩
 have cZ := z0h aF bw
 refine D2.q2 (hg := gk rfl rfl d rfl) (.pointer (some ⟨e, 0, none⟩)) (ft (q 0 rfl) (ft (m 0 rfl) rfl)) (D2.pure (v := (.pointer (some ⟨e, 0, none⟩))) (gl rfl d) rfl (z4l ov (f.atVar (j := 2) rfl)) (D2.pure (v := (padd (.pointer (some ⟨e, 0, none⟩)) 1)) (gl rfl d) rfl (z0f znq ov (f.atVar (j := 2) rfl)) (D2.load1' (v := v0_1) (r := []) (gl rfl d) rfl ag31 (z0i rfl (At.raw (At.proj (f.atVar (j := 2) rfl) z3e))) z08 (D2.q2 (hg := gk rfl rfl d rfl) (.int .i64 c) rfl ?_))))
 obtain ⟨N, c0, bA⟩ := z00 cZ
 have aI := z0c c0
 refine D2.pure (v := (z1v v0_1 (c.toNat * 1))) (gl rfl d) rfl (z2a el31 sz3 ov ov (f.slLen (j := 3) rfl) aI.1 aI.2.1) (D2.load1' (v := (.int .i64 N)) (r := []) (gl rfl d) rfl ag3 (z0i rfl (At.int (f.atSl (j := 3) rfl aI.2.2))) z08 (D2.pure (v := (padd (.pointer (some ⟨bf, 0, none⟩)) 8)) (gl rfl d) rfl (z0f zjg ov (f.atVar (j := 1) rfl)) (D2.load1' (v := (.int .i64 x.Hold)) (r := []) (gl rfl d) rfl ag3 (z0i rfl (At.int (At.proj (f.atVar (j := 1) rfl) z5n))) z08 (D2.q3 (hg := gk rfl rfl d rfl) (.bool (decide (N > x.Hold))) rfl rfl (D2.pv (.bool (decide (N > x.Hold))) (z8u (ou d) ov) (D2.p2 (.bool (decide (N > x.Hold))) ?_))))))
 refine D2.splitAt (t := 126) (b := decide (N > x.Hold)) rfl (fun aJ g => ?_) (fun aJ g => ?_)
 .have c1 := z01 aJ bA
  refine D2.skip (gl rfl g) rfl (D2.skip (gl rfl g) rfl (D2.skip (gl rfl g) rfl (D2.skip (gl rfl g) rfl (D2.skip (gl rfl g) rfl (D2.skip (gl rfl g) rfl (D2.pv (.bool true) (z68 (ou g) ov) ?_))))))
  obtain ⟨eH, c2, c3⟩ := z00 c1
  have aK := z0c c2
  refine D2.pv (z1v v0_3 (c.toNat * 1)) (z2a el43 sz4 ov ov (f.slLen (j := 5) rfl) aK.1 aK.2.1) (D2.lo rfl rfl (Lo.storeSl0 (j := 5) (y0 := true) (v := (.bool true)) rfl aK.2.2  rfl sz4 rfl rfl rfl f) ?_ z08 ?_ ?_)
  .rintro bB bC ⟨aL, a0⟩; exact (faI (faI (faI (faI (faI (faI z08))))))
  .rintro bB bC ⟨aL, a0⟩; exact z08
  rintro bB bC ⟨aL, a0⟩
  refine .nil ?_
  have c4 := (aL.drop 0).drop 0
  obtain rfl := zAa c3
  exact ⟨(List.set ag (c.toNat) (z03 .i64 (B + p))), (List.set ah (c.toNat) (decide (A > 0))), (List.set ai (c.toNat) true), _, rfl, c4, aV⟩
 have c5 := z0h aJ bA
 obtain ⟨bD, c6, bE⟩ := (f.atVar (j := 0) rfl)
 refine D2.loadA' (cs := bD) (gl rfl g) rfl ag73 sz73 (z0i rfl c6) (RT.len _ bE) z08 (D2.pure (v := (padd (.pointer (some ⟨bf, 0, none⟩)) 7)) (gl rfl g) rfl (z0f zno ov (f.atVar (j := 1) rfl)) (D2.load1' (v := (.int .i64 x.Short)) (r := []) (gl rfl g) rfl ag3 (z0i rfl (At.int (At.proj (f.atVar (j := 1) rfl) z73))) z08 ?_))
 obtain ⟨c7, c8, c9⟩ := z00 c5
 refine D2.lo (gl rfl g) rfl (Lo.cQ Tryz.f27 (mc rfl mn) f (fun al y => zdl K x.Short y _ c8)) ?_ z08 ?_ ?_
 .rintro bF bG ⟨bH, aM, aa, F, ⟨aN, rfl, aO⟩⟩; exact (faI (faR1 (.inr (smI (j := 0) F)) (faI (faI (faI (faI (faI (faR1 (.inr (smI (j := 2) F)) z08))))))))
 .rintro bF bG ⟨bH, aM, aa, F, ⟨aN, rfl, aO⟩⟩; exact z08
 rintro bF bG ⟨bH, aM, aa, F, ⟨aN, rfl, aO⟩⟩
 obtain ⟨P, da, db⟩ := z00 c9
 refine D2.lo (gl rfl g) rfl (Lo.cQ Tryz.f26 (mc rfl (mc rfl mn)) aM (fun al y => zbg K bD ao (RT.mono _ aa bE) aN c7 aO y _ da)) ?_ (faK z08) ?_ ?_
 .rintro bI bJ ⟨bK, ab, aP, ac, rfl⟩; exact (faI (faI (faI (faI (faI (faI (faI (faR1 (.inr (smI (j := 2) ac)) z08))))))))
 .rintro bI bJ ⟨bK, ab, aP, ac, rfl⟩; exact z08
 rintro bI bJ ⟨bK, ab, aP, ac, rfl⟩
 have dT := zAe aV (zAe aa aP)
 refine D2.q3 (hg := gk rfl rfl g rfl) (.bool (decide (P > 0))) rfl rfl (D2.pv (.bool (decide (P > 0))) (z8u (ou g) ov) ?_)
 obtain ⟨eI, dc, dd⟩ := z00 db
 have aQ := z0c dc
 refine D2.pv (z1v v0_3 (c.toNat * 1)) (z2a el43 sz4 ov ov (ab.slLen (j := 5) rfl) aQ.1 aQ.2.1) (D2.lo rfl rfl (Lo.storeSl0 (j := 5) (y0 := decide (P > 0)) (v := (.bool (decide (P > 0)))) rfl aQ.2.2  rfl sz4 rfl rfl rfl ab) ?_ (faK (faK z08)) ?_ ?_)
 .rintro bL bM ⟨aR, a1⟩; exact (faI (faI (faI (faI (faI (faI (faI (faI z08))))))))
 .rintro bL bM ⟨aR, a1⟩; exact z08
 rintro bL bM ⟨aR, a1⟩
 refine .nil ?_
 have de := (aR.drop 0).drop 0
 obtain rfl := zAa dd
 exact ⟨(List.set ag (c.toNat) (z03 .i64 (B + p))), (List.set ah (c.toNat) (decide (A > 0))), (List.set ai (c.toNat) (decide (P > 0))), _, rfl, de, dT⟩
def z1q (K : Nat) (a : zAd) : Nat -> Int -> Option (Int ⊕ Unit)
  | 0, _ => none
  | k + 1, b => (if (decide (b < (a.size : Int))) = true then (Option.bind (((bidx a b).bind fun c => (if (decide (c < 48)) = true then some true else ((bidx a b).bind fun d => some (decide (d > 57)))))) (tu1 fun e => (if e = true then some (.inl 5) else z1q K a k (z03 .i64 (b + 1))))) else some (.inr ()))
def z6e (K : Nat) (a : zAd) : Option Int := (if ((a.size : Int) == 0) = true then some 5 else (z70 (z1q K a K 0) (tu1 fun b => some b) (tu0 (Option.bind ((if (decide ((a.size : Int) > 1)) = true then ((bidx a 0).bind fun c => some (c == 48)) else some false)) (tu1 fun d => (if d = true then some 5 else (if (decide ((a.size : Int) > 2000)) = true then some 2 else some 0)))))))
theorem zad (a : zAd) (O : Ow G H (L)) (r : Int) (h : z6e K a = some r) :
    CR Tryz.prog 70 [(.string a)] G H (L) (fun v e _ => v = .int .i64 r) := by
 unfold z6e at h
 refine CR.og (n := 34) (fn := Tryz.f70) (by kernel_rfl) rfl rfl fun R kr => (.seq (.region (W.p1 (.int .i64 0) (.nil (.seq (.seq ?_))))))
 refine .region (W.p2 (.string a) (W.pv (.int .i64 (a.size : Int)) (z2c ov un9) (W.p3 (.bool ((a.size : Int) == 0)) (.nil (.cond (b := ((a.size : Int) == 0)) rfl rfl (fun X => ?_) (fun X => ?_))))))
 .have aJ := z01 X h
  refine .seq (.region (W.p1 (.int .i64 5) (.nil (.ret ?_))))
  obtain rfl := zAa aJ
  exact z1m kr (v1 := (.int .i64 5)) (by rfl) rt O (zAf _) rfl
 have aK := z0h X h
 refine .skip (.seq (.seq (.region (W.p1 (.int .i64 0) (.nil ?_)))))
 obtain ⟨ac, aL, ad⟩ := z1w aK
 refine AW.midT (fun f i => ∃  (e : GM), (.inr ()) = ac /\ Ow e i (L) /\ GM.le G e) ?_ ?_
 rotate_left
 .rintro aM aP j ⟨ae, rfl, J, s⟩
  have af := z7i (z72 ad)
  refine .seq (.seq ?_)
  obtain ⟨ag, M, ah⟩ := z00 af
  refine AW.midT (fun f i => ∃ (g : Bool) (e : GM), g = ag /\ Ow e i (L) /\ GM.le ae e /\ f 30 = .bool g) ?_ ?_
  .refine .region (W.q2 (.string a) (ft (j 0 rfl) rfl) (W.pv (.int .i64 (a.size : Int)) (z2c ov un9) (W.p3 (.bool (decide ((a.size : Int) > 1))) (W.p2 (.bool (decide ((a.size : Int) > 1))) (W.splitAt (t := 26) (b := decide ((a.size : Int) > 1)) rfl (fun u d => ?_) (fun u d => ?_))))))
   rotate_left
   .have ai := z0h u M
    refine W.q6 rfl d (W.q6 rfl d (W.q6 rfl d (W.q5 (.bool false) d rfl (.nil ?_))))
    obtain rfl := zAa ai
    exact ⟨false, _, rfl, J, (zAf _), rfl⟩
   have aj := z01 u M
   refine W.q2 (hg := gk rfl rfl d rfl) (.string a) (ft (j 0 rfl) rfl) ?_
   obtain ⟨l, ak, al⟩ := z00 aj
   refine W.pure (v := (.int .u8 l)) (gl rfl d) rfl (zb3 un9 ov ov ak) (W.q3 (hg := gk rfl rfl d rfl) (.bool (l == 48)) rfl rfl (W.q4 (.bool (l == 48)) d rfl (.nil ?_)))
   obtain rfl := zAa al
   exact ⟨(l == 48), _, rfl, J, (zAf _), rfl⟩
  rintro aN aQ Y ⟨am, aR, rfl, w, x, an⟩
  have N := z0a ah
  refine .cond (b := am) rfl an (fun y => ?_) (fun y => ?_)
  .have ao := z01 y N
   refine .seq (.region (W.p1 (.int .i64 5) (.nil (.ret ?_))))
   obtain rfl := zAa ao
   exact z1m kr (v1 := (.int .i64 5)) (by rfl) rt w (zAe s x) rfl
  have P := z0h y N
  refine .skip (.seq (.seq (.region (W.q2 (.string a) (ft (Y 0 rfl) (ft (j 0 rfl) rfl)) (W.pv (.int .i64 (a.size : Int)) (z2c ov un9) (W.p3 (.bool (decide ((a.size : Int) > 2000))) ?_))))))
  refine .nil (.cond (b := decide ((a.size : Int) > 2000)) rfl rfl (fun z => ?_) (fun z => ?_))
  .have ap := z01 z P
   refine .seq (.region (W.p1 (.int .i64 2) (.nil (.ret ?_))))
   obtain rfl := zAa ap
   exact z1m kr (v1 := (.int .i64 2)) (by rfl) rt w (zAe s x) rfl
  have aq := z0h z P
  refine .skip (.seq (.region (W.p1 (.int .i64 0) (.nil (.ret ?_)))))
  obtain rfl := zAa aq
  exact z1m kr (v1 := (.int .i64 0)) (by rfl) rt w (zAe s x) rfl
 refine .block (AW.loop (α := Nat) (fun Z f i => ∃ (g : Int) (e : GM), z1q K a Z g = some ac /\ Ow e i (L) /\ GM.le G e /\ f 3 = .int .i64 g) (fun Z => Z) K ⟨0, _, aL, O, (zAf _), rfl⟩ ?_)
 rintro aa
 rintro aS aT k ⟨A, ar, m, B, C, o⟩
 rcases aa with _ | aa
 .exact z09 m
 rw [z1q] at m
 refine .seq (.seq (.region (W.q2 _ o (W.q2 (.string a) (ft (k 0 rfl) rfl) (W.pv (.int .i64 (a.size : Int)) (z2c ov un9) (W.p3 (.bool (decide (A < (a.size : Int)))) ?_))))))
 refine .nil (.cond (b := decide (A < (a.size : Int))) rfl rfl (fun E => ?_) (fun E => ?_))
 rotate_left
 .have au := z0h E m
  refine .exit ?_
  obtain rfl := zAa au
  exact ⟨_, rfl, B, C⟩
 have av := z01 E m
 refine .skip (.seq (.block (.seq ?_)))
 obtain ⟨aw, ax, ay⟩ := z00 av
 refine AW.midT (fun f i => ∃ (g : Bool) (e : GM), g = aw /\ Ow e i (L) /\ GM.le ar e /\ f 22 = .bool g) ?_ ?_
 rotate_left
 .rintro aO aU ab ⟨az, aV, rfl, S, T, aA⟩
  have U := z0a ay
  refine .cond (b := az) rfl aA (fun F => ?_) (fun F => ?_)
  .have aB := z01 F U
   refine .seq (.region (W.p1 (.int .i64 5) (.nil (.ret ?_))))
   obtain rfl := zAa aB
   have aC := z0a (z3z ad)
   obtain rfl := zAa aC
   exact z1m kr (v1 := (.int .i64 5)) (by rfl) rt S (zAe C T) rfl
  have aD := z0h F U
  refine .skip (.region (W.q2 _ (ft (ab 3 rfl) o) (W.p3 (.int .i64 (z03 .i64 (A + 1))) (W.p1 (.int .i64 (z03 .i64 (A + 1))) (.nil ?_)))))
  exact ⟨aa, zAg _, ⟨z03 .i64 (A + 1), _, aD, S, (zAe C T), rfl⟩⟩
 refine .region (W.q2 (.string a) (ft (k 0 rfl) rfl) (W.q2 _ o ?_))
 obtain ⟨p, aE, V⟩ := z00 ax
 refine W.pv (.int .u8 p) (zb3 un9 ov ov aE) (W.p3 (.bool (decide (p < 48))) (W.p2 (.bool (decide (p < 48))) (W.splitAt (t := 17) (b := decide (p < 48)) rfl (fun I c => ?_) (fun I c => ?_))))
 .have aF := z01 I V
  refine W.q6 rfl c (W.q6 rfl c (W.q6 rfl c (W.q6 rfl c (W.q4 (.bool true) c rfl (.nil ?_)))))
  obtain rfl := zAa aF
  exact ⟨true, _, rfl, B, (zAf _), rfl⟩
 have aG := z0h I V
 refine W.q2 (hg := gk rfl rfl c rfl) (.string a) (ft (k 0 rfl) rfl) (W.q2 (hg := gk rfl rfl c rfl) _ o ?_)
 obtain ⟨q, aH, aI⟩ := z00 aG
 refine W.pure (v := (.int .u8 q)) (gl rfl c) rfl (zb3 un9 ov ov aH) (W.q3 (hg := gk rfl rfl c rfl) (.bool (decide (q > 57))) rfl rfl (W.q5 (.bool (decide (q > 57))) c rfl (.nil ?_)))
 obtain rfl := zAa aI
 exact ⟨decide (q > 57), _, rfl, B, (zAf _), rfl⟩
def z6f (K : Nat) : Nat -> zAd -> Option (zAd)
  | 0, _ => none
  | k + 1, a => (Option.bind ((if (decide ((a.size : Int) > 1)) = true then ((bidx a 0).bind fun b => some (b == 48)) else some false)) (tu1 fun c => (if c = true then ((ssl a 1 (a.size : Int)).bind fun d => z6f K k d) else some a)))
def z7t (K : Nat) (b : zAd) : Option zAd := (Option.bind (z6f K K b) (tu1 fun a => some a))
theorem z8k (A : zAd) (O : Ow G H (L)) (r : zAd) (h : z7t K A = some r) :
    CR Tryz.prog 96 [(.string A)] G H (L) (fun v c _ => v = .string r) := by
 unfold z7t at h
 refine CR.og (n := 14) (fn := Tryz.f96) (by kernel_rfl) rfl rfl fun R kr => (.seq (.region (W.p1 (.string (⟨#[]⟩ : zAd)) (.nil (.seq ?_)))))
 obtain ⟨E, ad, ae⟩ := z00 h
 refine AW.midT (fun d i => ∃ (e : zAd) (c : GM), e = E /\ Ow c i (L) /\ GM.le G c /\ d 0 = .string e) ?_ ?_
 rotate_left
 .rintro af aj ag ⟨q, ak, rfl, F, I, J⟩
  have M := z0a ae
  refine .seq (.region (W.q2 _ J (W.p1 (.string q) (.nil (.ret ?_)))))
  obtain rfl := zAa M
  exact z1m kr (v1 := (.string q)) (by rfl) rt F I rfl
 refine .block (AW.loop (α := Nat) (fun B d i => ∃ (e : zAd) (c : GM), z6f K B e = some E /\ Ow c i (L) /\ GM.le G c /\ d 0 = .string e) (fun B => B) K ⟨A, _, ad, O, (zAf _), rfl⟩ ?_)
 rintro C
 rintro al ap am ⟨j, ah, k, s, u, f⟩
 rcases C with _ | C
 .exact z09 k
 rw [z6f] at k
 refine .seq (.seq ?_)
 obtain ⟨N, w, P⟩ := z00 k
 refine AW.midT (fun d i => ∃ (e : Bool) (c : GM), e = N /\ Ow c i (L) /\ GM.le ah c /\ d 10 = .bool e) ?_ ?_
 rotate_left
 .rintro ai an l ⟨S, ao, rfl, x, y, T⟩
  have z := z0a P
  refine .cond (b := S) rfl T (fun m => ?_) (fun m => ?_)
  rotate_left
  .have U := z0h m z
   refine .exit ?_
   obtain rfl := zAa U
   exact ⟨j, _, rfl, x, (zAe u y), (ft (l 0 rfl) f)⟩
  have V := z01 m z
  refine .skip (.block (.region (W.q2 _ (ft (l 0 rfl) f) ?_)))
  obtain ⟨o, X, Y⟩ := z00 V
  refine W.pv (.string o) (zho un9 ov ov X) (W.p1 (.string o) (.nil ?_))
  exact ⟨C, zAg _, ⟨o, _, Y, x, (zAe u y), rfl⟩⟩
 refine .region (W.q2 _ f (W.pv (.int .i64 (j.size : Int)) (z2c ov un9) (W.p3 (.bool (decide ((j.size : Int) > 1))) (W.p2 (.bool (decide ((j.size : Int) > 1))) (W.splitAt (t := 6) (b := decide ((j.size : Int) > 1)) rfl (fun p a => ?_) (fun p a => ?_))))))
 rotate_left
 .have Z := z0h p w
  refine W.q6 rfl a (W.q6 rfl a (W.q6 rfl a (W.q5 (.bool false) a rfl (.nil ?_))))
  obtain rfl := zAa Z
  exact ⟨false, _, rfl, s, (zAf _), rfl⟩
 have aa := z01 p w
 refine W.q2 (hg := gk rfl rfl a rfl) _ f ?_
 obtain ⟨g, ab, ac⟩ := z00 aa
 refine W.pure (v := (.int .u8 g)) (gl rfl a) rfl (zb3 un9 ov ov ab) (W.q3 (hg := gk rfl rfl a rfl) (.bool (g == 48)) rfl rfl (W.q4 (.bool (g == 48)) a rfl (.nil ?_)))
 obtain rfl := zAa ac
 exact ⟨(g == 48), _, rfl, s, (zAf _), rfl⟩
def z86 (K : Nat) (a : zAd) (b : zAd) : Option Int := (if (decide ((a.size : Int) < (b.size : Int))) = true then some (-1) else (if (decide ((a.size : Int) > (b.size : Int))) = true then some 1 else (if (sLt a b) = true then some (-1) else (if (!(sLt a b || sEq a b)) = true then some 1 else some 0))))
theorem zc9 (a : zAd) (c : zAd) (O : Ow G H (L)) (r : Int) (h : z86 K a c = some r) :
    CR Tryz.prog 89 [(.string a), (.string c)] G H (L) (fun v s _ => v = .int .i64 r) := by
 unfold z86 at h
 refine CR.og (n := 25) (fn := Tryz.f89) (by kernel_rfl) rfl rfl fun R kr => (.seq (.region (W.p1 (.int .i64 0) (.nil (.seq (.block ?_))))))
 refine .seq (.region (W.p2 (.string a) (W.pv (.int .i64 (a.size : Int)) (z2c ov un9) (W.p2 (.string c) (W.pv (.int .i64 (c.size : Int)) (z2c ov un9) (W.p3 (.bool (decide ((a.size : Int) < (c.size : Int)))) ?_))))))
 refine W.p1 (.bool (decide ((a.size : Int) < (c.size : Int)))) (.nil (.cond (b := decide ((a.size : Int) < (c.size : Int))) rfl rfl (fun e => ?_) (fun e => ?_)))
 .have o := z01 e h
  refine .seq (.region (W.p1 (.int .i64 (-1)) (.nil (.ret ?_))))
  obtain rfl := zAa o
  exact z1m kr (v1 := (.int .i64 (-1))) (by rfl) rt O (zAf _) rfl
 have i := z0h e h
 refine .seq (.region (W.p2 (.string a) (W.pv (.int .i64 (a.size : Int)) (z2c ov un9) (W.p2 (.string c) (W.pv (.int .i64 (c.size : Int)) (z2c ov un9) (W.p3 (.bool (decide ((a.size : Int) > (c.size : Int)))) ?_))))))
 refine W.p1 (.bool (decide ((a.size : Int) > (c.size : Int)))) (.nil (.cond (b := decide ((a.size : Int) > (c.size : Int))) rfl rfl (fun f => ?_) (fun f => ?_)))
 .have p := z01 f i
  refine .seq (.region (W.p1 (.int .i64 1) (.nil (.ret ?_))))
  obtain rfl := zAa p
  exact z1m kr (v1 := (.int .i64 1)) (by rfl) rt O (zAf _) rfl
 have j := z0h f i
 refine .seq (.region (W.p2 (.string a) (W.p2 (.string c) (W.pv (.bool (sLt a c)) (ztl ov ov) (W.p1 (.bool (sLt a c)) (.nil ?_))))))
 refine .cond (b := sLt a c) rfl rfl (fun g => ?_) (fun g => ?_)
 .have q := z01 g j
  refine .seq (.region (W.p1 (.int .i64 (-1)) (.nil (.ret ?_))))
  obtain rfl := zAa q
  exact z1m kr (v1 := (.int .i64 (-1))) (by rfl) rt O (zAf _) rfl
 have k := z0h g j
 refine .seq (.region (W.p2 (.string a) (W.p2 (.string c) (W.pv (.bool (!(sLt a c || sEq a c))) (ztm ov ov) (W.p1 (.bool (!(sLt a c || sEq a c))) (.nil ?_))))))
 refine .cond (b := (!(sLt a c || sEq a c))) rfl rfl (fun d => ?_) (fun d => ?_)
 .have l := z01 d k
  refine .seq (.region (W.p1 (.int .i64 1) (.nil (.ret ?_))))
  obtain rfl := zAa l
  exact z1m kr (v1 := (.int .i64 1)) (by rfl) rt O (zAf _) rfl
 have m := z0h d k
 refine .skip (.seq (.region (W.p1 (.int .i64 0) (.nil (.ret ?_)))))
 obtain rfl := zAa m
 exact z1m kr (v1 := (.int .i64 0)) (by rfl) rt O (zAf _) rfl
def z6j (K : Nat) (a : zAd) (b : Int) : Option Int := (if (decide (b < (a.size : Int))) = true then ((bidx a (z03 .i64 ((z03 .i64 ((a.size : Int) - 1)) - b))).bind fun c => some (IntKind.wrap .i64 (z03 .u8 (c - 48)))) else some 0)
theorem z6g (a : zAd) (c : Int) (O : Ow G H (L)) (r : Int) (h : z6j K a c = some r) :
    CR Tryz.prog 97 [(.string a), (.int .i64 c)] G H (L) (fun v k _ => v = .int .i64 r) := by
 unfold z6j at h
 refine CR.og (n := 18) (fn := Tryz.f97) (by kernel_rfl) rfl rfl fun R kr => (.seq (.region (W.p1 (.int .i64 0) (.nil (.seq (.seq ?_))))))
 refine .region (W.p2 (.int .i64 c) (W.p2 (.string a) (W.pv (.int .i64 (a.size : Int)) (z2c ov un9) (W.p3 (.bool (decide (c < (a.size : Int)))) (.nil (.cond (b := decide (c < (a.size : Int))) rfl rfl (fun e => ?_) (fun e => ?_)))))))
 rotate_left
 .have f := z0h e h
  refine .skip (.seq (.region (W.p1 (.int .i64 0) (.nil (.ret ?_)))))
  obtain rfl := zAa f
  exact z1m kr (v1 := (.int .i64 0)) (by rfl) rt O (zAf _) rfl
 have g := z01 e h
 refine .seq (.region (W.p2 (.string a) (W.p2 (.string a) (W.pv (.int .i64 (a.size : Int)) (z2c ov un9) (W.p3 (.int .i64 (z03 .i64 ((a.size : Int) - 1))) (W.p2 (.int .i64 c) ?_))))))
 refine W.p3 (.int .i64 (z03 .i64 ((z03 .i64 ((a.size : Int) - 1)) - c))) ?_
 obtain ⟨d, i, j⟩ := z00 g
 refine W.pv (.int .u8 d) (zb3 un9 ov ov i) (W.p3 (.int .u8 (z03 .u8 (d - 48))) (W.pv (.int .i64 (IntKind.wrap .i64 (z03 .u8 (d - 48)))) (z5e in5 in3 ov) (W.p1 (.int .i64 (IntKind.wrap .i64 (z03 .u8 (d - 48)))) (.nil (.ret ?_)))))
 obtain rfl := zAa j
 exact z1m kr (v1 := (.int .i64 (IntKind.wrap .i64 (z03 .u8 (d - 48))))) (by rfl) rt O (zAf _) rfl
def z3y (K : Nat) (b : List Int) : Nat -> List Int -> Int -> Option (List Int)
  | 0, _, _ => none
  | k + 1, c, a => (if (decide (a < (b.length : Int))) = true then ((idx b a).bind fun d => ((idx c (z03 .i64 ((z03 .i64 ((b.length : Int) - 1)) - a))).bind fun e => z3y K b k (List.set c (Int.toNat (z03 .i64 ((z03 .i64 ((b.length : Int) - 1)) - a))) (IntKind.wrap .u8 (z03 .i64 ((48 : Int) + d)))) (z03 .i64 (a + 1)))) else some c)
def zan (K : Nat) (a : List Int) : Option zAd := (if 0 <= (a.length : Int) /\ (a.length : Int) <= (a.length : Int) /\ (a.length : Int) <= 16777216 then (Option.bind (z3y K a K (List.replicate (Int.toNat (a.length : Int)) 0) 0) (tu1 fun b => (if 0 < b.length then (if ((⟨#[48]⟩ : zAd)).size + ((strOfNums b)).size <= 4611686018427387904 then ((z7t K ((⟨#[48]⟩ : zAd) ++ (strOfNums b))).bind fun c => some c) else none) else none))) else none)
theorem zbz (p : Value) (e : List Int) (k : (rSl (rI .i64)).rep G [p] e) (O : Ow G H (L)) (r : zAd) (h : zan K e = some r) :
    CR Tryz.prog 98 [p] G H (L) (fun v q _ => v = .string r) := by
 unfold zan at h
 refine CR.og (n := 31) (fn := Tryz.f98) (by kernel_rfl) rfl rfl fun R kr => (.seq (.region (W.p1 (.string (⟨#[]⟩ : zAd)) (.nil (.seq (.region ?_))))))
 refine W.p2 p (W.pv (.int .i64 (e.length : Int)) (z0q ov (z0g k) (z05 el31)) ?_)
 obtain ⟨am, an⟩ := z2b h
 refine W.ln (Lo.makeSlice (r := (rI .u8)) (x0 := 0) (a := (e.length : Int)) (c := (e.length : Int)) rfl zjz ze5 sz5 (by kernel_rfl) rfl by5 (by decide) rfl rfl am (zI .u8) O) ?_
 rintro s aK ⟨ao, az⟩
 refine W.p1 s (.nil (.seq (.seq (.region (W.p2 p (W.pv (.int .i64 (e.length : Int)) (z0q ov (z0g k) (z05 el31)) ?_))))))
 refine W.p2 (.int .i64 0) (.nil ?_)
 obtain ⟨M, ap, aq⟩ := z00 an
 refine AW.midT (fun z F => ∃ (t : List Int) (q : GM), t = M /\ Ow q F (eSl s 5 (rI .u8) t :: L) /\ GM.le G q) ?_ ?_
 rotate_left
 .rintro ar aA I ⟨A, aB, rfl, B, N⟩
  have P := z0a aq
  refine .seq (.region (W.q2 s (ft (I 3 rfl) rfl) ?_))
  obtain ⟨au, S, T⟩ := z4a (j := 0) rfl B
  obtain ⟨U, V⟩ := z2b P
  refine W.bytesStr rfl rfl zjz in5 un9 S T U ?_
  obtain ⟨X, Y⟩ := z2b V
  refine W.pv (.string ((⟨#[48]⟩ : zAd) ++ (strOfNums A))) (zfi X ov ov) ?_
  obtain ⟨C, Z, aa⟩ := z00 Y
  refine W.ln (Lo.cQ Tryz.f96 (mc rfl mn) B (fun aL av => z8k K ((⟨#[48]⟩ : zAd) ++ (strOfNums A)) av _ Z)) ?_
  rintro aC aD ⟨aE, ab, ac, aw, rfl⟩
  refine W.p1 (.string C) (.nil (.ret ?_))
  have ad := ab.drop 0
  obtain rfl := zAa aa
  exact z1m kr (v1 := (.string C)) (by rfl) rt ad (zAe N ac) rfl
 refine .block (AW.loop (α := Nat) (fun J z F => ∃ (t : List Int) (ae : Int) (q : GM), z3y K e J t ae = some M /\ Ow q F (eSl s 5 (rI .u8) t :: L) /\ GM.le G q /\ z 11 = .int .i64 ae) (fun J => J) K ⟨(List.replicate (Int.toNat (e.length : Int)) 0), 0, _, ap, ao, (zAf _), rfl⟩ ?_)
 rintro u
 rintro ax aF i ⟨E, d, aG, l, m, g, o⟩
 rcases u with _ | u
 .exact z09 l
 rw [z3y] at l
 refine .seq (.region (W.q3 (.bool (decide (d < (e.length : Int)))) o (ft (i 10 rfl) rfl) (.nil (.seq (.cond (b := decide (d < (e.length : Int))) rfl rfl (fun w => ?_) (fun w => ?_))))))
 rotate_left
 .have af := z0h w l
  refine .exit ?_
  obtain rfl := zAa af
  exact ⟨E, _, rfl, m, g⟩
 have ag := z01 w l
 refine .skip (.seq (.block (.seq (.region (W.q2 _ o ?_)))))
 obtain ⟨f, ah, ai⟩ := z00 ag
 have x := z0c ah
 refine W.pv (z1v p (d.toNat * 1)) (z2a el31 sz3 (ou (ft (i 9 rfl) rfl)) (ou o) (z0g (RT.mono _ g k)) x.1 x.2.1) (W.l1 (.int .i64 f) ag3 (z0i rfl (At.int (At.le (At.le (z1h k x.2.2) g g) (zAf _) m.fro))) (W.p1 (.int .i64 d) (W.p1 (.int .i64 f) (.nil (.region (W.q2 s (ft (i 3 rfl) rfl) ?_))))))
 refine W.q2 p (ft (i 0 rfl) rfl) (W.pv (.int .i64 (e.length : Int)) (z0q ov (z0g (RT.mono _ g k)) (z05 el31)) (W.p3 (.int .i64 (z03 .i64 ((e.length : Int) - 1))) (W.p2 (.int .i64 d) (W.p3 (.int .i64 (z03 .i64 ((z03 .i64 ((e.length : Int) - 1)) - d))) (W.p2 (.int .i64 f) (W.p3 (.int .i64 (z03 .i64 ((48 : Int) + f))) ?_))))))
 refine W.pv (.int .u8 (IntKind.wrap .u8 (z03 .i64 ((48 : Int) + f)))) (z5e in3 in5 ov) ?_
 obtain ⟨aH, aj, ak⟩ := z00 ai
 have y := z0c aj
 refine W.pv (z1v s (Int.toNat (z03 .i64 ((z03 .i64 ((e.length : Int) - 1)) - d)) * 1)) (z2a zjz sz5 ov ov (m.slLen (j := 0) rfl) y.1 y.2.1) (W.ln (Lo.storeSl0 (j := 0) (y0 := IntKind.wrap .u8 (z03 .i64 ((48 : Int) + f))) (v := (.int .u8 (IntKind.wrap .u8 (z03 .i64 ((48 : Int) + f))))) rfl y.2.2  rfl sz5 rfl rfl rfl m) ?_)
 rintro aI aJ ⟨al, ay⟩
 refine .nil (.region (W.r3 (.int .i64 (z03 .i64 (d + 1))) o (W.p2 (.int .i64 (z03 .i64 (d + 1))) (.nil ?_))))
 exact ⟨u, zAg _, ⟨(List.set E (Int.toNat (z03 .i64 ((z03 .i64 ((e.length : Int) - 1)) - d))) (IntKind.wrap .u8 (z03 .i64 ((48 : Int) + f)))), z03 .i64 (d + 1), _, ak, al, g, rfl⟩⟩
def z34 (K : Nat) (e : zAd) (h : zAd) : Nat -> List Int -> Int -> Int -> Option (List Int)
  | 0, _, _, _ => none
  | k + 1, f, g, c => (if (decide (c < (e.size : Int))) = true then ((z6j K e c).bind fun a => ((z6j K h c).bind fun b => (Option.bind ((if (decide ((z03 .i64 ((z03 .i64 (a - b)) - g)) < 0)) = true then (lt (z03 .i64 ((z03 .i64 ((z03 .i64 (a - b)) - g)) + 10)) fun i => some (1, i)) else some (0, z03 .i64 ((z03 .i64 (a - b)) - g)))) (tu2 fun j d => (if f.length + [d].length <= 16777216 then z34 K e h k (f ++ [d]) j (z03 .i64 (c + 1)) else none))))) else some f)
def z87 (K : Nat) (c : zAd) (d : zAd) : Option zAd := (Option.bind (z34 K c d K [] 0 0) (tu1 fun a => ((zan K a).bind fun b => some b)))
theorem zca (g : zAd) (o : zAd) (O : Ow G H (L)) (r : zAd) (h : z87 K g o = some r) :
    CR Tryz.prog 90 [(.string g), (.string o)] G H (L) (fun v e _ => v = .string r) := by
 unfold z87 at h
 refine CR.og (n := 34) (fn := Tryz.f90) (by kernel_rfl) rfl rfl fun R kr => (.seq (.region (W.p1 (.string (⟨#[]⟩ : zAd)) (.nil (.seq (.region ?_))))))
 refine W.p1 (.slice none 0 0) (.nil (.seq (.region (W.p1 (.int .i64 0) (.nil (.seq ?_))))))
 refine .seq (.region (W.p2 (.string g) (W.pv (.int .i64 (g.size : Int)) (z2c ov un9) (W.p2 (.int .i64 0) (.nil ?_)))))
 obtain ⟨S, aM, aN⟩ := z00 h
 refine AW.midT (fun d p => ∃ (i : List Int) (e : GM), i = S /\ Ow e p (eSl (d 5) 3 (rI .i64) i :: L) /\ GM.le G e) ?_ ?_
 rotate_left
 .rintro q aX aO ⟨T, aY, rfl, U, V⟩
  have X := z0a aN
  refine .seq (.region (W.p2 (q 5) ?_))
  obtain ⟨B, Y, Z⟩ := z00 X
  refine W.ln (Lo.callB (j := 0) rfl rfl (fn := Tryz.f98) (by kernel_rfl) rfl (mc rfl mn) U (fun e aa hG s hB => zbz K (q 5) T hB s _ Y)) ?_
  rintro aZ a0 ⟨a1, ab, ac, aP, rfl⟩
  refine W.p1 (.string B) (.nil (.ret ?_))
  have ad := ab.drop 0
  obtain rfl := zAa Z
  exact z1m kr (v1 := (.string B)) (by rfl) rt ad (zAe V ac) rfl
 refine .block ?_
 have aQ := O.nilSl 3 (rI .i64)
 refine AW.loop (α := Nat) (fun M d p => ∃ (i : List Int) (t : Int) (ae : Int) (e : GM), z34 K g o M i t ae = some S /\ Ow e p (eSl (d 5) 3 (rI .i64) i :: L) /\ GM.le G e /\ d 6 = .int .i64 t /\ d 11 = .int .i64 ae) (fun M => M) K ⟨[], 0, 0, _, aM, aQ, (zAf _), rfl, rfl⟩ ?_
 rintro N
 rintro u a2 l ⟨P, k, f, a3, m, C, E, af, w⟩
 rcases N with _ | N
 .exact z09 m
 rw [z34] at m
 refine .seq (.region (W.q3 (.bool (decide (f < (g.size : Int)))) w (ft (l 10 rfl) rfl) (.nil (.seq (.cond (b := decide (f < (g.size : Int))) rfl rfl (fun x => ?_) (fun x => ?_))))))
 rotate_left
 .have ag := z0h x m
  refine .exit ?_
  obtain rfl := zAa ag
  exact ⟨P, _, rfl, C, E⟩
 have ah := z01 x m
 refine .skip (.seq (.block (.seq (.region (W.q2 _ w (W.p1 (.int .i64 f) ?_))))))
 refine .nil (.seq (.region (W.q2 (.string g) (ft (l 0 rfl) rfl) (W.p2 (.int .i64 f) ?_))))
 obtain ⟨a, ai, aj⟩ := z00 ah
 refine W.ln (Lo.cQ Tryz.f97 (mc rfl (mc rfl mn)) C (fun aa s => z6g K g f s _ ai)) ?_
 rintro a4 a5 ⟨a6, ak, al, aR, rfl⟩
 refine W.q2 (.string o) (ft (l 1 rfl) rfl) (W.p2 (.int .i64 f) ?_)
 obtain ⟨c, am, an⟩ := z00 aj
 refine W.ln (Lo.cQ Tryz.f97 (mc rfl (mc rfl mn)) ak (fun aa s => z6g K o f s _ am)) ?_
 rintro a7 a8 ⟨ao, F, ap, aS, rfl⟩
 refine W.p3 (.int .i64 (z03 .i64 (a - c))) (W.q2 _ af (W.p3 (.int .i64 (z03 .i64 ((z03 .i64 (a - c)) - k))) (W.p1 (.int .i64 (z03 .i64 ((z03 .i64 (a - c)) - k))) (.nil (.seq (.region ?_))))))
 refine W.p1 (.int .i64 0) (.nil (.seq (.seq (.region (W.p2 (.int .i64 (z03 .i64 ((z03 .i64 (a - c)) - k))) (W.p3 (.bool (decide ((z03 .i64 ((z03 .i64 (a - c)) - k)) < 0))) ?_))))))
 refine .nil ?_
 obtain ⟨aq, I, ar⟩ := z00 an
 refine AW.midT (fun d p => ∃ (i : Int) (t : Int) (e : GM), (i, t) = aq /\ Ow e p (eSl (u 5) 3 (rI .i64) P :: L) /\ GM.le ao e /\ d 6 = .int .i64 i /\ d 8 = .int .i64 t) ?_ ?_
 .refine .cond (b := decide ((z03 .i64 ((z03 .i64 (a - c)) - k)) < 0)) rfl rfl (fun y => ?_) (fun y => ?_)
  rotate_left
  .have au := z0h y I
   refine .skip ?_
   obtain rfl := zAa au
   exact ⟨0, z03 .i64 ((z03 .i64 (a - c)) - k), _, rfl, F, (zAf _), rfl, rfl⟩
  have av := z01 y I
  refine .region (W.p2 (.int .i64 (z03 .i64 ((z03 .i64 (a - c)) - k))) (W.p3 (.int .i64 (z03 .i64 ((z03 .i64 ((z03 .i64 (a - c)) - k)) + 10))) ?_))
  obtain ⟨aw, ax, ay⟩ := z71 av
  refine W.q1 _ (congrArg (Value.int .i64) ax) (W.p1 (.int .i64 1) (.nil ?_))
  obtain rfl := zAa ay
  exact ⟨1, aw, _, rfl, F, (zAf _), rfl, rfl⟩
 rintro aT a9 z ⟨az, A, ba, rfl, aA, aB, aC, aD⟩
 have aE := z3c ar
 refine .region (W.q2 (u 5) (ft (z 5 rfl) rfl) (W.q2 _ aD (W.ln (Lo.buildSlice (r := (rI .i64)) (vs := [(.int .i64 A)]) (xs := [A]) el31 ze3 sz3 (by kernel_rfl) rfl (qc rfl qn) rfl (.cons rfl .nil) aA) ?_)))
 rintro bb bc ⟨J, aU⟩
 obtain ⟨aV, aF, aG⟩ := z4a (j := 0) rfl J
 obtain ⟨aH, aI⟩ := z2b aE
 refine W.ln (Lo.append (j := 1) (v := (u 5)) rfl rfl el31 ni31 ze3 sz3 by3 (by decide) (by decide) rfl aF aG aH J) ?_
 rintro aJ bd ⟨aK, aW⟩
 refine W.p1 aJ (.nil (.region (W.q3 (.int .i64 (z03 .i64 (f + 1))) (ft (z 11 rfl) w) rfl (W.p2 (.int .i64 (z03 .i64 (f + 1))) (.nil ?_)))))
 have aL := aK.drop 0
 exact ⟨N, zAg _, ⟨(P ++ [A]), az, z03 .i64 (f + 1), _, aI, aL, (zAe E (zAe al (zAe ap aB))), aC, rfl⟩⟩
def z42 (K : Nat) (c : zAd) : Nat -> zAd -> Int -> Option (zAd × Int)
  | 0, _, _ => none
  | k + 1, a, b => ((z86 K a c).bind fun d => (if (decide (d >= 0)) = true then ((z87 K a c).bind fun e => z42 K c k e (z03 .u8 (b + 1))) else some (a, b)))
def z43 (K : Nat) (f : zAd) (g : zAd) : Nat -> zAd -> zAd -> Int -> Option (zAd × zAd)
  | 0, _, _, _ => none
  | k + 1, b, c, a => (if (decide (a < (f.size : Int))) = true then ((ssl f a (z03 .i64 (a + 1))).bind fun d => (if (c).size + (d).size <= 4611686018427387904 then ((z7t K (c ++ d)).bind fun h => (Option.bind (z42 K g K h 48) (tu2 fun i e => (if (b).size + ((Utf8.encode e)).size <= 4611686018427387904 then z43 K f g k (b ++ (Utf8.encode e)) i (z03 .i64 (a + 1)) else none)))) else none)) else some (b, c))
def z7m (K : Nat) (a : zAd) (b : zAd) : Option (zAd × zAd) := ((ssl a 0 (imin (a.size : Int) (z03 .i64 ((b.size : Int) - 1)))).bind fun f => (if ((⟨#[48]⟩ : zAd)).size + (f).size <= 4611686018427387904 then ((z7t K ((⟨#[48]⟩ : zAd) ++ f)).bind fun g => (Option.bind (z43 K a b K (⟨#[48]⟩ : zAd) g (imin (a.size : Int) (z03 .i64 ((b.size : Int) - 1)))) (tu2 fun c d => ((z7t K c).bind fun e => some (e, d))))) else none))
theorem z9k (c : zAd) (d : zAd) (O : Ow G H (L)) (r : zAd × zAd) (h : z7m K c d = some r) :
    CR Tryz.prog 86 [(.string c), (.string d)] G H (L) (fun v e _ => v = .tuple #[.string r.1, .string r.2]) := by
 unfold z7m at h
 refine CR.og (n := 53) (fn := Tryz.f86) (by kernel_rfl) rfl rfl fun R kr => (.seq (.region (W.p1 (.string (⟨#[]⟩ : zAd)) (W.p1 (.string (⟨#[]⟩ : zAd)) (.nil (.seq ?_))))))
 refine .region (W.p2 (.string c) (W.pv (.int .i64 (c.size : Int)) (z2c ov un9) (W.p2 (.string d) (W.pv (.int .i64 (d.size : Int)) (z2c ov un9) (W.p3 (.int .i64 (z03 .i64 ((d.size : Int) - 1))) (W.pv (.int .i64 (imin (c.size : Int) (z03 .i64 ((d.size : Int) - 1)))) (ztj ov ov) ?_))))))
 refine W.p1 (.int .i64 (imin (c.size : Int) (z03 .i64 ((d.size : Int) - 1)))) (.nil (.seq (.region (W.p2 (.string c) (W.p2 (.int .i64 (imin (c.size : Int) (z03 .i64 ((d.size : Int) - 1)))) ?_)))))
 obtain ⟨ah, a6, a7⟩ := z00 h
 refine W.pv (.string ah) (zl9 un9 ov ov a6) ?_
 obtain ⟨a8, a9⟩ := z2b a7
 refine W.pv (.string ((⟨#[48]⟩ : zAd) ++ ah)) (zfi a8 ov ov) ?_
 obtain ⟨aA, ba, bb⟩ := z00 a9
 refine W.ln (Lo.cQ Tryz.f96 (mc rfl mn) O (fun N j => z8k K ((⟨#[48]⟩ : zAd) ++ ah) j _ ba)) ?_
 rintro bo bp ⟨aB, aC, aD, bc, rfl⟩
 refine W.p1 (.string (⟨#[48]⟩ : zAd)) (W.p1 (.string aA) (.nil (.seq (.seq (.region (W.p2 (.int .i64 (imin (c.size : Int) (z03 .i64 ((d.size : Int) - 1)))) ?_))))))
 refine W.p1 (.int .i64 (imin (c.size : Int) (z03 .i64 ((d.size : Int) - 1)))) (.nil ?_)
 obtain ⟨P, aE, aF⟩ := z00 bb
 refine AW.midT (fun a l => ∃ (f : zAd) (g : zAd) (e : GM), (f, g) = P /\ Ow e l (L) /\ GM.le aB e /\ a 7 = .string f /\ a 8 = .string g) ?_ ?_
 rotate_left
 .rintro a3 bd a4 ⟨ai, u, be, rfl, aj, ak, al, am⟩
  have an := z3c aF
  refine .seq (.region (W.q2 _ al ?_))
  obtain ⟨w, ao, ap⟩ := z00 an
  refine W.ln (Lo.cQ Tryz.f96 (mc rfl mn) aj (fun N j => z8k K ai j _ ao)) ?_
  rintro bf bg ⟨bh, aq, ar, a5, rfl⟩
  refine W.q2 _ am (W.p1 (.string w) (W.p1 (.string u) (.nil (.ret ?_))))
  obtain rfl := zAa ap
  exact zp4 kr (v1 := (.string w)) (v2 := (.string u)) (by rfl) rt rt aq (zAe aD (zAe ak ar)) rfl
 refine .block (AW.loop (α := Nat) (fun m a l => ∃ (f : zAd) (g : zAd) (aG : Int) (e : GM), z43 K c d m f g aG = some P /\ Ow e l (L) /\ GM.le aB e /\ a 7 = .string f /\ a 8 = .string g /\ a 9 = .int .i64 aG) (fun m => m) K ⟨(⟨#[48]⟩ : zAd), aA, imin (c.size : Int) (z03 .i64 ((d.size : Int) - 1)), _, aE, aC, (zAf _), rfl, rfl, rfl⟩ ?_)
 rintro x
 rintro bi bq k ⟨o, y, i, br, p, S, T, U, V, q⟩
 rcases x with _ | x
 .exact z09 p
 rw [z43] at p
 refine .seq (.seq (.region (W.q2 _ q (W.q2 (.string c) (ft (k 0 rfl) rfl) (W.pv (.int .i64 (c.size : Int)) (z2c ov un9) (W.p3 (.bool (decide (i < (c.size : Int)))) ?_))))))
 refine .nil (.cond (b := decide (i < (c.size : Int))) rfl rfl (fun z => ?_) (fun z => ?_))
 rotate_left
 .have au := z0h z p
  refine .exit ?_
  obtain rfl := zAa au
  exact ⟨o, y, _, rfl, S, T, U, V⟩
 have aH := z01 z p
 refine .skip (.seq (.block (.seq (.region (W.q2 _ V (W.q2 (.string c) (ft (k 0 rfl) rfl) ?_))))))
 refine W.q2 _ q (W.q2 _ q (W.p3 (.int .i64 (z03 .i64 (i + 1))) ?_))
 obtain ⟨A, aI, aJ⟩ := z00 aH
 refine W.pv (.string A) (zl8 un9 ov ov ov aI) ?_
 obtain ⟨aK, aL⟩ := z2b aJ
 refine W.pv (.string (y ++ A)) (zfi aK ov ov) ?_
 obtain ⟨X, aM, aN⟩ := z00 aL
 refine W.ln (Lo.cQ Tryz.f96 (mc rfl mn) S (fun N j => z8k K (y ++ A) j _ aM)) ?_
 rintro bs bt ⟨Y, aO, aP, bj, rfl⟩
 refine W.p1 (.string X) (.nil (.seq (.region (W.p1 (.int .u8 48) (.nil (.seq ?_))))))
 obtain ⟨Z, aQ, aR⟩ := z00 aN
 refine AW.midT (fun a l => ∃ (f : zAd) (g : Int) (e : GM), (f, g) = Z /\ Ow e l (L) /\ GM.le Y e /\ a 8 = .string f /\ a 10 = .int .u8 g) ?_ ?_
 rotate_left
 .rintro bk bu B ⟨aS, s, bv, rfl, aT, aU, av, aw⟩
  have ax := z3c aR
  refine .region (W.q2 _ (ft (B 7 rfl) U) (W.q2 _ aw (W.pv (.string (Utf8.encode s)) (zq0 in5 un9 ov) ?_)))
  obtain ⟨ay, az⟩ := z2b ax
  refine W.pv (.string (o ++ (Utf8.encode s))) (zfi ay ov ov) (W.p1 (.string (o ++ (Utf8.encode s))) (.nil (.region (W.q2 _ (ft (B 9 rfl) q) (W.p3 (.int .i64 (z03 .i64 (i + 1))) (W.p1 (.int .i64 (z03 .i64 (i + 1))) ?_))))))
  refine .nil ?_
  exact ⟨x, zAg _, ⟨(o ++ (Utf8.encode s)), aS, z03 .i64 (i + 1), _, az, aT, (zAe T (zAe aP aU)), rfl, av, rfl⟩⟩
 refine .block (AW.loop (α := Nat) (fun m a l => ∃ (f : zAd) (g : Int) (e : GM), z42 K d m f g = some Z /\ Ow e l (L) /\ GM.le Y e /\ a 8 = .string f /\ a 10 = .int .u8 g) (fun m => m) K ⟨X, 48, _, aQ, aO, (zAf _), rfl, rfl⟩ ?_)
 rintro C
 rintro bl bw E ⟨F, t, bx, I, aV, aa, J, ab⟩
 rcases C with _ | C
 .exact z09 I
 rw [z42] at I
 refine .seq (.seq (.region (W.q2 _ J (W.q2 (.string d) (ft (E 1 rfl) (ft (k 1 rfl) rfl)) ?_))))
 obtain ⟨ac, aW, ad⟩ := z00 I
 refine W.ln (Lo.cQ Tryz.f89 (mc rfl (mc rfl mn)) aV (fun N j => zc9 K F d j _ aW)) ?_
 rintro bz bA ⟨bB, ae, af, bm, rfl⟩
 refine W.p3 (.bool (decide (ac >= 0))) (.nil (.cond (b := decide (ac >= 0)) rfl rfl (fun M => ?_) (fun M => ?_)))
 rotate_left
 .have aX := z0h M ad
  refine .exit ?_
  obtain rfl := zAa aX
  exact ⟨F, t, _, rfl, ae, (zAe aa af), J, ab⟩
 have aY := z01 M ad
 refine .skip (.block (.seq (.region (W.q2 _ J (W.q2 (.string d) (ft (E 1 rfl) (ft (k 1 rfl) rfl)) ?_)))))
 obtain ⟨ag, aZ, a0⟩ := z00 aY
 refine W.ln (Lo.cQ Tryz.f90 (mc rfl (mc rfl mn)) ae (fun N j => zca K F d j _ aZ)) ?_
 rintro bC bD ⟨bE, a1, a2, bn, rfl⟩
 refine W.p1 (.string ag) (.nil (.region (W.q2 _ ab (W.p3 (.int .u8 (z03 .u8 (t + 1))) (W.p1 (.int .u8 (z03 .u8 (t + 1))) (.nil ?_))))))
 exact ⟨C, zAg _, ⟨ag, z03 .u8 (t + 1), _, a0, a1, (zAe aa (zAe af a2)), rfl, rfl⟩⟩
def z2e (K : Nat) : Nat -> zAd -> zAd -> Option (zAd)
  | 0, _, _ => none
  | k + 1, b, a => (if (!(sEq a (⟨#[48]⟩ : zAd))) = true then ((z7m K b a).bind fun c => z2e K k a c.2) else some b)
def z88 (K : Nat) (b : zAd) (c : zAd) : Option zAd := (Option.bind (z2e K K b c) (tu1 fun a => some a))
theorem zcb (p : zAd) (q : zAd) (O : Ow G H (L)) (r : zAd) (h : z88 K p q = some r) :
    CR Tryz.prog 71 [(.string p), (.string q)] G H (L) (fun v e _ => v = .string r) := by
 unfold z88 at h
 refine CR.og (n := 18) (fn := Tryz.f71) (by kernel_rfl) rfl rfl fun R kr => (.seq (.region (W.p1 (.string (⟨#[]⟩ : zAd)) (.nil (.seq ?_)))))
 obtain ⟨w, P, S⟩ := z00 h
 refine AW.midT (fun c s => ∃ (f : zAd) (e : GM), f = w /\ Ow e s (L) /\ GM.le G e /\ c 0 = .string f) ?_ ?_
 rotate_left
 .rintro T Y U ⟨k, Z, rfl, x, y, z⟩
  have A := z0a S
  refine .seq (.region (W.q2 _ z (W.p1 (.string k) (.nil (.ret ?_)))))
  obtain rfl := zAa A
  exact z1m kr (v1 := (.string k)) (by rfl) rt x y rfl
 refine .block (AW.loop (α := Nat) (fun t c s => ∃ (f : zAd) (B : zAd) (e : GM), z2e K t f B = some w /\ Ow e s (L) /\ GM.le G e /\ c 0 = .string f /\ c 1 = .string B) (fun t => t) K ⟨p, q, _, P, O, (zAf _), rfl, rfl⟩ ?_)
 rintro u
 rintro aa ag ab ⟨C, g, ac, d, l, m, o, i⟩
 rcases u with _ | u
 .exact z09 d
 rw [z2e] at d
 refine .seq (.seq (.region (W.q2 _ i (W.pv (.bool (!(sEq g (⟨#[48]⟩ : zAd)))) (znm ov ov) (.nil (.cond (b := (!(sEq g (⟨#[48]⟩ : zAd)))) rfl rfl (fun j => ?_) (fun j => ?_)))))))
 rotate_left
 .have E := z0h j d
  refine .exit ?_
  obtain rfl := zAa E
  exact ⟨C, _, rfl, l, m, o⟩
 have F := z01 j d
 refine .skip (.block (.seq (.region (W.q2 _ o (W.q2 _ i ?_)))))
 obtain ⟨a, I, J⟩ := z00 F
 refine W.ln (Lo.cQ Tryz.f86 (mc rfl (mc rfl mn)) l (fun ah V => z9k K C g V _ I)) ?_
 rintro ad ae ⟨af, M, N, X, rfl⟩
 refine W.p2 (.tuple #[(.string a.1), (.string a.2)]) (W.pv (.string a.1) (z0j ov rfl) (W.pv (.string a.2) (z0j ov rfl) (W.p1 (.string a.1) (W.p1 (.string a.2) (.nil (.region ?_))))))
 refine W.q2 _ i (W.p2 (.string a.2) (W.p1 (.string g) (W.p1 (.string a.2) (.nil ?_))))
 exact ⟨u, zAg _, ⟨g, a.2, _, J, M, (zAe m N), rfl, rfl⟩⟩
def z21 (K : Nat) (a : zAd) : Nat -> Int -> zAd -> zAd -> Int -> Option (Int × zAd × zAd)
  | 0, _, _, _, _ => none
  | k + 1, c, d, e, b => (if (decide (b < (a.size : Int))) = true then (Option.bind ((Option.bind (((bidx a b).bind fun i => (if (i == 47) = true then some (c == 1) else some false))) (tu1 fun j => (if j = true then ((ssl a 0 b).bind fun l => ((ssl a (z03 .i64 (b + 1)) (a.size : Int)).bind fun m => some (2, l, m))) else some (c, d, e))))) (tu3 fun f g h => z21 K a k f g h (z03 .i64 (b + 1)))) else some (c, d, e))
def z6h (K : Nat) (c : zAd) : Option Int := (Option.bind ((if (decide ((c.size : Int) > 0)) = true then ((bidx c 0).bind fun o => some (o == 45)) else some false)) (tu1 fun l => (Option.bind ((if l = true then ((ssl c 1 (c.size : Int)).bind fun m => some (m, true)) else some (c, false))) (tu2 fun f n => (Option.bind (z21 K f K 1 f (⟨#[50]⟩ : zAd) 0) (tu3 fun g b a => ((z6e K b).bind fun d => ((z6e K a).bind fun e => (Option.bind ((if (d == 5) = true then some true else (if (e == 5) = true then some true else (if n = true then some (sEq b (⟨#[48]⟩ : zAd)) else some false)))) (tu1 fun h => (if h = true then some 5 else (Option.bind ((if (d != 0) = true then some true else some (e != 0))) (tu1 fun i => (if i = true then some 2 else (Option.bind ((if (g == 2) = true then (if (sEq a (⟨#[48]⟩ : zAd)) = true then some true else (if (sEq a (⟨#[49]⟩ : zAd)) = true then some true else ((z88 K b a).bind fun j => some (!(sEq j (⟨#[49]⟩ : zAd)))))) else some false)) (tu1 fun k => (if k = true then some 3 else some 0)))))))))))))))))
theorem zei (B : zAd) (O : Ow G H (L)) (r : Int) (h : z6h K B = some r) :
    CR Tryz.prog 55 [(.string B)] G H (L) (fun v f _ => v = .int .i64 r) := by
 unfold z6h at h
 refine CR.og (n := 86) (fn := Tryz.f55) (by kernel_rfl) rfl rfl fun R kr => (.seq (.region (W.p1 (.int .i64 0) (.nil (.seq (.region ?_))))))
 refine W.p2 (.string B) (W.p1 (.string B) (W.p1 (.bool false) (W.p1 (.int .i64 1) (.nil (.seq (.seq ?_))))))
 obtain ⟨cW, b7, cX⟩ := z00 h
 refine AW.midT (fun c s => ∃ (g : Bool) (f : GM), g = cW /\ Ow f s (L) /\ GM.le G f /\ c 19 = .bool g) ?_ ?_
 .refine .region (W.p2 (.string B) (W.pv (.int .i64 (B.size : Int)) (z2c ov un9) (W.p3 (.bool (decide ((B.size : Int) > 0))) (W.p2 (.bool (decide ((B.size : Int) > 0))) (W.splitAt (t := 15) (b := decide ((B.size : Int) > 0)) rfl (fun a6 z => ?_) (fun a6 z => ?_))))))
  rotate_left
  .have b8 := z0h a6 b7
   refine W.q6 rfl z (W.q6 rfl z (W.q6 rfl z (W.q5 (.bool false) z rfl (.nil ?_))))
   obtain rfl := zAa b8
   exact ⟨false, _, rfl, O, (zAf _), rfl⟩
  have cY := z01 a6 b7
  refine W.q2 (hg := gk rfl rfl z rfl) (.string B) rfl ?_
  obtain ⟨aL, cZ, c0⟩ := z00 cY
  refine W.pure (v := (.int .u8 aL)) (gl rfl z) rfl (zb3 un9 ov ov cZ) (W.q3 (hg := gk rfl rfl z rfl) (.bool (aL == 45)) rfl rfl (W.q4 (.bool (aL == 45)) z rfl (.nil ?_)))
  obtain rfl := zAa c0
  exact ⟨(aL == 45), _, rfl, O, (zAf _), rfl⟩
 rintro c1 dl J ⟨b9, ca, rfl, aO, cb, cc⟩
 have cd := z0a cX
 obtain ⟨ce, aP, cf⟩ := z00 cd
 refine AW.midT (fun c s => ∃ (g : zAd) (C : Bool) (f : GM), (g, C) = ce /\ Ow f s (L) /\ GM.le ca f /\ c 3 = .string g /\ c 4 = .bool C) ?_ ?_
 .refine .cond (b := b9) rfl cc (fun am => ?_) (fun am => ?_)
  rotate_left
  .have cg := z0h am aP
   refine .skip ?_
   obtain rfl := zAa cg
   exact ⟨B, false, _, rfl, aO, (zAf _), (ft (J 3 rfl) rfl), (ft (J 4 rfl) rfl)⟩
  have ch := z01 am aP
  refine .region (W.q2 (.string B) (ft (J 3 rfl) rfl) ?_)
  obtain ⟨an, ci, cj⟩ := z00 ch
  refine W.pv (.string an) (zho un9 ov ov ci) (W.p1 (.string an) (W.p1 (.bool true) (.nil ?_)))
  obtain rfl := zAa cj
  exact ⟨an, true, _, rfl, aO, (zAf _), rfl, rfl⟩
 rintro c2 dm a7 ⟨I, aQ, aR, rfl, ck, cl, T, cm⟩
 have cn := z3c cf
 refine .seq (.region (W.q2 _ T (W.p1 (.string I) (W.p1 (.string (⟨#[50]⟩ : zAd)) (.nil (.seq ?_))))))
 refine .seq (.region (W.q2 _ T (W.pv (.int .i64 (I.size : Int)) (z2c ov un9) (W.p2 (.int .i64 0) (.nil ?_)))))
 obtain ⟨aS, co, cp⟩ := z00 cn
 refine AW.midT (fun c s => ∃ (g : Int) (C : zAd) (U : zAd) (f : GM), (g, C, U) = aS /\ Ow f s (L) /\ GM.le aR f /\ c 5 = .int .i64 g /\ c 6 = .string C /\ c 7 = .string U) ?_ ?_
 .refine .block (AW.loop (α := Nat) (fun a8 c s => ∃ (g : Int) (C : zAd) (U : zAd) (cq : Int) (f : GM), z21 K I a8 g C U cq = some aS /\ Ow f s (L) /\ GM.le aR f /\ c 5 = .int .i64 g /\ c 6 = .string C /\ c 7 = .string U /\ c 25 = .int .i64 cq) (fun a8 => a8) K ⟨1, I, (⟨#[50]⟩ : zAd), 0, _, co, ck, (zAf _), (ft (a7 5 rfl) (ft (J 5 rfl) rfl)), rfl, rfl, rfl⟩ ?_)
  rintro ao
  rintro c3 dn N ⟨V, aT, aU, u, aV, ak, ap, aW, aq, aX, aY, ar⟩
  rcases ao with _ | ao
  .exact z09 ak
  rw [z21] at ak
  refine .seq (.region (W.q3 (.bool (decide (u < (I.size : Int)))) ar (ft (N 24 rfl) rfl) (.nil (.seq (.cond (b := decide (u < (I.size : Int))) rfl rfl (fun au => ?_) (fun au => ?_))))))
  rotate_left
  .have a9 := z0h au ak
   refine .exit ?_
   obtain rfl := zAa a9
   exact ⟨V, aT, aU, _, rfl, ap, aW, aq, aX, aY⟩
  have cr := z01 au ak
  refine .skip (.seq ?_)
  obtain ⟨cs, ct, cu⟩ := z00 cr
  refine AW.midT (fun c s => ∃ (g : Int) (C : zAd) (U : zAd) (f : GM), (g, C, U) = cs /\ Ow f s (L) /\ GM.le aV f /\ c 5 = .int .i64 g /\ c 6 = .string C /\ c 7 = .string U) ?_ ?_
  rotate_left
  .rintro cM c4 aM ⟨ba, bb, bc, c5, rfl, bd, be, bf, bg, bh⟩
   have bi := zb2 cu
   refine .region (W.q3 (.int .i64 (z03 .i64 (u + 1))) (ft (aM 25 rfl) ar) rfl (W.p2 (.int .i64 (z03 .i64 (u + 1))) (.nil ?_)))
   exact ⟨ao, zAg _, ⟨ba, bb, bc, z03 .i64 (u + 1), _, bi, bd, (zAe aW be), bf, bg, bh, rfl⟩⟩
  refine .block (.seq (.region (W.q2 _ ar (W.p1 (.int .i64 u) (.nil (.seq ?_))))))
  obtain ⟨cv, cw, cx⟩ := z00 ct
  refine AW.midT (fun c s => ∃ (g : Bool) (f : GM), g = cv /\ Ow f s (L) /\ GM.le aV f /\ c 35 = .bool g) ?_ ?_
  .refine .region (W.q2 _ (ft (N 3 rfl) T) (W.p2 (.int .i64 u) ?_))
   obtain ⟨al, cy, aZ⟩ := z00 cw
   refine W.pv (.int .u8 al) (zb3 un9 ov ov cy) (W.p3 (.bool (al == 47)) (W.p2 (.bool (al == 47)) (W.splitAt (t := 32) (b := (al == 47)) rfl (fun av w => ?_) (fun av w => ?_))))
   rotate_left
   .have cz := z0h av aZ
    refine W.q6 rfl w (W.q6 rfl w (W.q5 (.bool false) w rfl (.nil ?_)))
    obtain rfl := zAa cz
    exact ⟨false, _, rfl, ap, (zAf _), rfl⟩
   have cA := z01 av aZ
   refine W.q2 (hg := gk rfl rfl w rfl) _ aq (W.q3 (hg := gk rfl rfl w rfl) (.bool (V == 1)) rfl rfl (W.q4 (.bool (V == 1)) w rfl (.nil ?_)))
   obtain rfl := zAa cA
   exact ⟨(V == 1), _, rfl, ap, (zAf _), rfl⟩
  rintro c6 dp x ⟨cB, dq, rfl, a0, a1, cC⟩
  have a2 := z0a cx
  refine .cond (b := cB) rfl cC (fun aw => ?_) (fun aw => ?_)
  rotate_left
  .have cD := z0h aw a2
   refine .skip ?_
   obtain rfl := zAa cD
   exact ⟨V, aT, aU, _, rfl, a0, a1, (ft (x 5 rfl) aq), (ft (x 6 rfl) aX), (ft (x 7 rfl) aY)⟩
  have cE := z01 aw a2
  refine .draw2 (M := [0, 0, 3, 0, 0, 16, 56, 7, 255, 511]) mixed (by kernel_rfl) (by kernel_rfl) fun dr ds cF dt => ?_
  have cG := a0.ext cF
  refine D2.q2 _ (ft (x 3 rfl) (ft (N 3 rfl) T)) (D2.q2 (.int .i64 u) (ft (x 8 rfl) rfl) ?_)
  obtain ⟨ax, cH, cI⟩ := z00 cE
  refine D2.pv (.string ax) (zl9 un9 ov ov cH) (D2.q2 _ (ft (x 3 rfl) (ft (N 3 rfl) T)) (D2.q2 (.int .i64 u) (ft (x 8 rfl) rfl) (D2.p3 (.int .i64 (z03 .i64 (u + 1))) ?_)))
  obtain ⟨ay, cJ, cK⟩ := z00 cI
  refine D2.pv (.string ay) (zho un9 ov ov cJ) (D2.p1 (.string ax) (D2.p1 (.string ay) (D2.p1 (.int .i64 2) (.nil ?_))))
  obtain rfl := zAa cK
  exact ⟨2, ax, ay, _, rfl, cG, a1, rfl, rfl, rfl⟩
 rintro cN c7 aN ⟨X, y, j, c8, rfl, bj, bk, bl, Y, P⟩
 have bm := zb2 cp
 refine .seq (.region (W.q2 _ Y ?_))
 obtain ⟨k, bn, bo⟩ := z00 bm
 refine W.ln (Lo.cQ Tryz.f70 (mc rfl mn) bj (fun cL az => zad K y az _ bn)) ?_
 rintro c9 da ⟨db, bp, bq, cO, rfl⟩
 refine W.q2 _ P ?_
 obtain ⟨i, br, bs⟩ := z00 bo
 refine W.ln (Lo.cQ Tryz.f70 (mc rfl mn) bp (fun cL az => zad K j az _ br)) ?_
 rintro dc dd ⟨bt, S, bu, cP, rfl⟩
 refine W.p1 (.int .i64 k) (W.p1 (.int .i64 i) (.nil (.seq (.block (.seq ?_)))))
 obtain ⟨bv, aA, bw⟩ := z00 bs
 refine AW.midT (fun c s => ∃ (g : Bool) (f : GM), g = bv /\ Ow f s (L) /\ GM.le bt f /\ c 48 = .bool g) ?_ ?_
 .refine .region (W.p2 (.int .i64 k) (W.p3 (.bool (k == 5)) (W.p2 (.bool (k == 5)) (W.splitAt (t := 51) (b := (k == 5)) rfl (fun Z l => ?_) (fun Z l => ?_)))))
  .have bx := z01 Z aA
   refine W.q6 rfl l (W.q6 rfl l (W.q4 (.bool true) l rfl (W.p2 (.bool true) (W.q6 rfl rfl (W.q6 rfl rfl (W.skipU rfl rfl rfl rfl ?_))))))
   refine W.skipU rfl rfl rfl rfl (W.q6 rfl rfl (W.q4 (.bool true) rfl rfl (W.p1 (.bool true) (.nil ?_))))
   obtain rfl := zAa bx
   exact ⟨true, _, rfl, S, (zAf _), rfl⟩
  have aB := z0h Z aA
  refine W.q2 (hg := gk rfl rfl l rfl) (.int .i64 i) rfl (W.q3 (hg := gk rfl rfl l rfl) (.bool (i == 5)) rfl rfl (W.q5 (.bool (i == 5)) l rfl (W.p2 (.bool (i == 5)) (W.splitAt (t := 55) (b := (i == 5)) rfl (fun aa d => ?_) (fun aa d => ?_)))))
  .have bz := z01 aa aB
   refine W.q6 rfl d (W.q6 rfl d (W.skipU rfl rfl rfl rfl (W.skipU rfl rfl rfl rfl (W.q6 rfl d (W.q4 (.bool true) d rfl (W.p1 (.bool true) ?_))))))
   refine .nil ?_
   obtain rfl := zAa bz
   exact ⟨true, _, rfl, S, (zAf _), rfl⟩
  have aC := z0h aa aB
  refine W.q2 (hg := gk rfl rfl d rfl) _ (ft (aN 4 rfl) cm) (W.q2 (hg := gk rfl rfl d rfl) (.bool aQ) rfl (W.splitAt (t := 57) (b := aQ) rfl (fun ab m => ?_) (fun ab m => ?_)))
  rotate_left
  .have bA := z0h ab aC
   refine W.q6 rfl m (W.q6 rfl m (W.q5 (hg := gk rfl rfl d rfl) (.bool false) m rfl (W.q5 (.bool false) d rfl (W.p1 (.bool false) (.nil ?_)))))
   obtain rfl := zAa bA
   exact ⟨false, _, rfl, S, (zAf _), rfl⟩
  have bB := z01 ab aC
  refine W.q2 (hg := gk rfl rfl m rfl) _ Y (W.pure (v := (.bool (sEq y (⟨#[48]⟩ : zAd)))) (gl rfl m) rfl (z90 ov ov) (W.q4 (hg := gk rfl rfl d rfl) (.bool (sEq y (⟨#[48]⟩ : zAd))) m rfl (W.q5 (.bool (sEq y (⟨#[48]⟩ : zAd))) d rfl (W.p1 (.bool (sEq y (⟨#[48]⟩ : zAd))) (.nil ?_)))))
  obtain rfl := zAa bB
  exact ⟨sEq y (⟨#[48]⟩ : zAd), _, rfl, S, (zAf _), rfl⟩
 rintro cR de o ⟨bC, bD, rfl, ac, bE, bF⟩
 have a3 := zAe cb (zAe cl (zAe bk (zAe bq (zAe bu bE))))
 have aD := z0a bw
 refine .cond (b := bC) rfl bF (fun ad => ?_) (fun ad => ?_)
 .have bG := z01 ad aD
  refine .seq (.region (W.p1 (.int .i64 5) (.nil (.ret ?_))))
  obtain rfl := zAa bG
  exact z1m kr (v1 := (.int .i64 5)) (by rfl) rt ac a3 rfl
 have bH := z0h ad aD
 refine .seq ?_
 obtain ⟨bI, aE, bJ⟩ := z00 bH
 refine AW.midT (fun c s => ∃ (g : Bool) (f : GM), g = bI /\ Ow f s (L) /\ GM.le bD f /\ c 62 = .bool g) ?_ ?_
 .refine .region (W.q2 (.int .i64 k) (ft (o 9 rfl) rfl) (W.p3 (.bool (k != 0)) (W.p2 (.bool (k != 0)) (W.splitAt (t := 65) (b := (k != 0)) rfl (fun ae p => ?_) (fun ae p => ?_)))))
  .have bK := z01 ae aE
   refine W.q6 rfl p (W.q6 rfl p (W.q4 (.bool true) p rfl (W.p1 (.bool true) (.nil ?_))))
   obtain rfl := zAa bK
   exact ⟨true, _, rfl, ac, (zAf _), rfl⟩
  have bL := z0h ae aE
  refine W.q2 (hg := gk rfl rfl p rfl) (.int .i64 i) (ft (o 10 rfl) rfl) (W.q3 (hg := gk rfl rfl p rfl) (.bool (i != 0)) rfl rfl (W.q5 (.bool (i != 0)) p rfl (W.p1 (.bool (i != 0)) (.nil ?_))))
  obtain rfl := zAa bL
  exact ⟨(i != 0), _, rfl, ac, (zAf _), rfl⟩
 rintro cS df A ⟨bM, bN, rfl, E, bO, bP⟩
 have a4 := zAe a3 bO
 have aF := z0a bJ
 refine .cond (b := bM) rfl bP (fun af => ?_) (fun af => ?_)
 .have bQ := z01 af aF
  refine .seq (.region (W.p1 (.int .i64 2) (.nil (.ret ?_))))
  obtain rfl := zAa bQ
  exact z1m kr (v1 := (.int .i64 2)) (by rfl) rt E a4 rfl
 have bR := z0h af aF
 refine .seq ?_
 obtain ⟨bS, aG, bT⟩ := z00 bR
 refine AW.midT (fun c s => ∃ (g : Bool) (f : GM), g = bS /\ Ow f s (L) /\ GM.le bN f /\ c 69 = .bool g) ?_ ?_
 rotate_left
 .rintro cT dg cU ⟨bU, dh, rfl, aH, bV, bW⟩
  have a5 := zAe a4 bV
  have aI := z0a bT
  refine .cond (b := bU) rfl bW (fun ag => ?_) (fun ag => ?_)
  .have bX := z01 ag aI
   refine .seq (.region (W.p1 (.int .i64 3) (.nil (.ret ?_))))
   obtain rfl := zAa bX
   exact z1m kr (v1 := (.int .i64 3)) (by rfl) rt aH a5 rfl
  have bY := z0h ag aI
  refine .skip (.seq (.region (W.p1 (.int .i64 0) (.nil (.ret ?_)))))
  obtain rfl := zAa bY
  exact z1m kr (v1 := (.int .i64 0)) (by rfl) rt aH a5 rfl
 refine .region (W.q2 _ (ft (A 5 rfl) (ft (o 5 rfl) bl)) (W.p3 (.bool (X == 2)) (W.p2 (.bool (X == 2)) (W.splitAt (t := 72) (b := (X == 2)) rfl (fun ah a => ?_) (fun ah a => ?_)))))
 rotate_left
 .have bZ := z0h ah aG
  refine W.q6 rfl a (W.q6 rfl a (W.q6 rfl a (W.skipU rfl rfl rfl rfl (W.skipU rfl rfl rfl rfl (W.q6 rfl a (W.q6 rfl a ?_))))))
  refine W.skipU rfl rfl rfl rfl (W.skipU rfl rfl rfl rfl (W.skipU rfl rfl rfl rfl (W.skipU rfl rfl rfl rfl (W.q6 rfl a (W.q5 (.bool false) a rfl (W.p1 (.bool false) ?_))))))
  refine .nil ?_
  obtain rfl := zAa bZ
  exact ⟨false, _, rfl, E, (zAf _), rfl⟩
 have aJ := z01 ah aG
 refine W.q2 (hg := gk rfl rfl a rfl) _ (ft (A 7 rfl) (ft (o 7 rfl) P)) (W.pure (v := (.bool (sEq j (⟨#[48]⟩ : zAd)))) (gl rfl a) rfl (z90 ov ov) (W.q2 (hg := gk rfl rfl a rfl) (.bool (sEq j (⟨#[48]⟩ : zAd))) rfl (W.splitAt (t := 75) (b := sEq j (⟨#[48]⟩ : zAd)) rfl (fun ai q => ?_) (fun ai q => ?_))))
 .have b0 := z01 ai aJ
  refine W.q6 rfl q (W.q6 rfl q (W.q4 (hg := gk rfl rfl a rfl) (.bool true) q rfl (W.q2 (hg := gk rfl rfl a rfl) (.bool true) rfl (W.q6 rfl rfl (W.q6 rfl rfl (W.q6 rfl rfl ?_))))))
  refine W.q6 rfl rfl (W.q4 (hg := gk rfl rfl a rfl) (.bool true) rfl rfl (W.q4 (.bool true) a rfl (W.p1 (.bool true) (.nil ?_))))
  obtain rfl := zAa b0
  exact ⟨true, _, rfl, E, (zAf _), rfl⟩
 have aK := z0h ai aJ
 refine W.q2 (hg := gk rfl rfl q rfl) _ (ft (A 7 rfl) (ft (o 7 rfl) P)) (W.pure (v := (.bool (sEq j (⟨#[49]⟩ : zAd)))) (gl rfl q) rfl (z90 ov ov) (W.q5 (hg := gk rfl rfl a rfl) (.bool (sEq j (⟨#[49]⟩ : zAd))) q rfl (W.q2 (hg := gk rfl rfl a rfl) (.bool (sEq j (⟨#[49]⟩ : zAd))) rfl (W.splitAt (t := 79) (b := sEq j (⟨#[49]⟩ : zAd)) rfl (fun aj e => ?_) (fun aj e => ?_)))))
 .have b1 := z01 aj aK
  refine W.q6 rfl e (W.q6 rfl e (W.q6 rfl e (W.q6 rfl e (W.q4 (hg := gk rfl rfl a rfl) (.bool true) e rfl (W.q4 (.bool true) a rfl (W.p1 (.bool true) ?_))))))
  refine .nil ?_
  obtain rfl := zAa b1
  exact ⟨true, _, rfl, E, (zAf _), rfl⟩
 have b2 := z0h aj aK
 refine W.q2 (hg := gk rfl rfl e rfl) _ (ft (A 6 rfl) (ft (o 6 rfl) Y)) (W.q2 (hg := gk rfl rfl e rfl) _ (ft (A 7 rfl) (ft (o 7 rfl) P)) ?_)
 obtain ⟨F, b3, b4⟩ := z00 b2
 refine W.lo (gl rfl e) rfl (Lo.cQ Tryz.f71 (mc rfl (mc rfl mn)) E (fun cL az => zcb K y j az _ b3)) ?_
 rintro di dj ⟨dk, b5, b6, cV, rfl⟩
 refine W.pure (v := (.bool (!(sEq F (⟨#[49]⟩ : zAd))))) (gl rfl e) rfl (znm ov ov) (W.q5 (hg := gk rfl rfl a rfl) (.bool (!(sEq F (⟨#[49]⟩ : zAd)))) e rfl (W.q4 (.bool (!(sEq F (⟨#[49]⟩ : zAd)))) a rfl (W.p1 (.bool (!(sEq F (⟨#[49]⟩ : zAd)))) (.nil ?_))))
 obtain rfl := zAa b4
 exact ⟨(!(sEq F (⟨#[49]⟩ : zAd))), _, rfl, b5, b6, rfl⟩
def z27 (K : Nat) (b : List zAd) : Nat -> Int -> Option (Int ⊕ Unit)
  | 0, _ => none
  | k + 1, c => (if (decide (c < (b.length : Int))) = true then ((idx b c).bind fun d => ((z6h K d).bind fun a => (if (a != 0) = true then some (.inl a) else z27 K b k (z03 .i64 (c + 1))))) else some (.inr ()))
def z6t (K : Nat) (b : List zAd) : Option Int := (z70 (z27 K b K 0) (tu1 fun a => some a) (tu0 (some 0)))
theorem zdm (q : Value) (f : List zAd) (j : (rSl rS).rep G [q] f) (O : Ow G H (L)) (r : Int) (h : z6t K f = some r) :
    CR Tryz.prog 28 [q] G H (L) (fun v g _ => v = .int .i64 r) := by
 unfold z6t at h
 refine CR.og (n := 18) (fn := Tryz.f28) (by kernel_rfl) rfl rfl fun R kr => (.seq (.region (W.p1 (.int .i64 0) (.nil (.seq (.seq ?_))))))
 refine .region (W.p2 q (W.pv (.int .i64 (f.length : Int)) (z0q ov (z0g j) (z05 el38)) (W.p2 (.int .i64 0) (.nil ?_))))
 obtain ⟨B, Y, C⟩ := z1w h
 refine AW.midT (fun s y => ∃  (g : GM), (.inr ()) = B /\ Ow g y (L) /\ GM.le G g) ?_ ?_
 rotate_left
 .rintro Z ad aa ⟨ae, rfl, E, F⟩
  have I := z7i (z72 C)
  refine .seq (.region (W.p1 (.int .i64 0) (.nil (.ret ?_))))
  obtain rfl := zAa I
  exact z1m kr (v1 := (.int .i64 0)) (by rfl) rt E F rfl
 refine .block (AW.loop (α := Nat) (fun z s y => ∃ (J : Int) (g : GM), z27 K f z J = some B /\ Ow g y (L) /\ GM.le G g /\ s 8 = .int .i64 J) (fun z => z) K ⟨0, _, Y, O, (zAf _), rfl⟩ ?_)
 rintro A
 rintro af aj t ⟨i, ak, d, k, c, l⟩
 rcases A with _ | A
 .exact z09 d
 rw [z27] at d
 refine .seq (.region (W.q3 (.bool (decide (i < (f.length : Int)))) l (ft (t 7 rfl) rfl) (.nil (.seq (.cond (b := decide (i < (f.length : Int))) rfl rfl (fun m => ?_) (fun m => ?_))))))
 rotate_left
 .have M := z0h m d
  refine .exit ?_
  obtain rfl := zAa M
  exact ⟨_, rfl, k, c⟩
 have N := z01 m d
 refine .skip (.seq (.block (.seq (.region ?_))))
 obtain ⟨e, P, S⟩ := z00 N
 have o := z0c P
 refine W.pv (z1v q (i.toNat * 1)) (z2a el38 sz57 (ou (ft (t 6 rfl) rfl)) (ou l) (z0g (RT.mono _ c j)) o.1 o.2.1) (W.l1 (.string e) ag57 (z0i rfl (At.str (At.le (At.le (z1h j o.2.2) c c) (zAf _) k.fro))) (W.p1 (.string e) (.nil (.seq (.region (W.p2 (.string e) ?_))))))
 obtain ⟨a, T, u⟩ := z00 S
 refine W.ln (Lo.cQ Tryz.f55 (mc rfl mn) k (fun al ab => zei K e ab _ T)) ?_
 rintro ag ah ⟨ai, w, x, ac, rfl⟩
 refine W.p1 (.int .i64 a) (.nil (.seq (.region (W.p2 (.int .i64 a) (W.p3 (.bool (a != 0)) (.nil ?_))))))
 refine .cond (b := (a != 0)) rfl rfl (fun p => ?_) (fun p => ?_)
 rotate_left
 .have U := z0h p u
  refine .skip (.region (W.r3 (.int .i64 (z03 .i64 (i + 1))) l (W.p2 (.int .i64 (z03 .i64 (i + 1))) (.nil ?_))))
  exact ⟨A, zAg _, ⟨z03 .i64 (i + 1), _, U, w, (zAe c x), rfl⟩⟩
 have V := z01 p u
 refine .seq (.region (W.p2 (.int .i64 a) (W.p1 (.int .i64 a) (.nil (.ret ?_)))))
 obtain rfl := zAa V
 have X := z0a (z3z C)
 obtain rfl := zAa X
 exact z1m kr (v1 := (.int .i64 a)) (by rfl) rt w (zAe c x) rfl
def z7n (K : Nat) (a : List zAd) : Option Int := (if (decide ((a.length : Int) > 40)) = true then some 2 else ((z6t K a).bind fun b => some b))
theorem zej (c : Value) (a : List zAd) (d : (rSl rS).rep G [c] a) (O : Ow G H (L)) (r : Int) (h : z7n K a = some r) :
    CR Tryz.prog 8 [c] G H (L) (fun v t _ => v = .int .i64 r) := by
 unfold z7n at h
 refine CR.og (n := 8) (fn := Tryz.f8) (by kernel_rfl) rfl rfl fun R kr => (.seq (.region (W.p1 (.int .i64 0) (.nil (.seq (.seq ?_))))))
 refine .region (W.p2 c (W.pv (.int .i64 (a.length : Int)) (z0q ov (z0g d) (z05 el39)) (W.p3 (.bool (decide ((a.length : Int) > 40))) (.nil (.cond (b := decide ((a.length : Int) > 40)) rfl rfl (fun e => ?_) (fun e => ?_))))))
 .have g := z01 e h
  refine .seq (.region (W.p1 (.int .i64 2) (.nil (.ret ?_))))
  obtain rfl := zAa g
  exact z1m kr (v1 := (.int .i64 2)) (by rfl) rt O (zAf _) rfl
 have i := z0h e h
 refine .skip (.seq (.region (W.p2 c ?_)))
 obtain ⟨f, j, k⟩ := z00 i
 refine W.ln (Lo.cQ Tryz.f28 (mc rfl mn) O (fun u l => zdm K c a d l _ j)) ?_
 rintro q s ⟨w, m, o, p, rfl⟩
 refine W.p1 (.int .i64 f) (.nil (.ret ?_))
 obtain rfl := zAa k
 exact z1m kr (v1 := (.int .i64 f)) (by rfl) rt m o rfl
def z48 (K : Nat) (c : Int) (a : zAd) : Nat -> Int -> Option ((Bool × zAd × zAd) ⊕ Unit)
  | 0, _ => none
  | k + 1, b => (if (decide (b < (a.size : Int))) = true then ((bidx a b).bind fun d => (if (d == 47) = true then ((ssl a 0 b).bind fun e => ((ssl a (z03 .i64 (b + 1)) (a.size : Int)).bind fun f => some (.inl ((c == 45), e, f)))) else z48 K c a k (z03 .i64 (b + 1)))) else some (.inr ()))
def z76 (K : Nat) (a : zAd) : Option (Bool × zAd × zAd) := ((bidx a 0).bind fun c => (Option.bind ((if (c == 45) = true then ((ssl a 1 (a.size : Int)).bind fun g => some g) else some a)) (tu1 fun b => (z70 (z48 K c b K 0) (tu3 fun d e f => some (d, e, f)) (tu0 (some ((c == 45), b, (⟨#[49]⟩ : zAd))))))))
theorem z8l (i : zAd) (O : Ow G H (L)) (r : Bool × zAd × zAd) (h : z76 K i = some r) :
    CR Tryz.prog 72 [(.string i)] G H (L) (fun v f _ => v = .tuple #[.bool r.1, .string r.2.1, .string r.2.2]) := by
 unfold z76 at h
 refine CR.og (n := 35) (fn := Tryz.f72) (by kernel_rfl) rfl rfl fun R kr => (.seq (.region (W.p1 (.bool false) (W.p1 (.string (⟨#[]⟩ : zAd)) (W.p1 (.string (⟨#[]⟩ : zAd)) (.nil ?_))))))
 refine .seq (.region (W.p2 (.string i) (W.p1 (.string i) (.nil (.seq (.region ?_))))))
 refine W.p2 (.string i) ?_
 obtain ⟨c, ap, aq⟩ := z00 h
 refine W.pv (.int .u8 c) (zb3 un9 ov ov ap) (W.p3 (.bool (c == 45)) (W.p1 (.bool (c == 45)) (.nil (.seq (.seq (.region ?_))))))
 refine W.p2 (.bool (c == 45)) (.nil ?_)
 obtain ⟨ar, S, au⟩ := z00 aq
 refine AW.midT (fun j l => ∃ (m : zAd) (f : GM), m = ar /\ Ow f l (L) /\ GM.le G f /\ j 5 = .string m) ?_ ?_
 .refine .cond (b := (c == 45)) rfl rfl (fun J => ?_) (fun J => ?_)
  rotate_left
  .have T := z0h J S
   refine .skip ?_
   obtain rfl := zAa T
   exact ⟨i, _, rfl, O, (zAf _), rfl⟩
  have av := z01 J S
  refine .region (W.p2 (.string i) ?_)
  obtain ⟨N, U, V⟩ := z00 av
  refine W.pv (.string N) (zho un9 ov ov U) (W.p1 (.string N) (.nil ?_))
  obtain rfl := zAa V
  exact ⟨N, _, rfl, O, (zAf _), rfl⟩
 rintro aw az o ⟨e, B, rfl, X, C, g⟩
 have Y := z0a au
 refine .seq (.seq (.region (W.q2 _ g (W.pv (.int .i64 (e.size : Int)) (z2c ov un9) (W.p2 (.int .i64 0) (.nil ?_))))))
 obtain ⟨E, Z, F⟩ := z1w Y
 refine AW.midT (fun j l => ∃  (f : GM), (.inr ()) = E /\ Ow f l (L) /\ GM.le B f) ?_ ?_
 rotate_left
 .rintro ax aA p ⟨aB, rfl, aa, ab⟩
  have ac := z7i (z72 F)
  refine .seq (.region (W.q2 (.bool (c == 45)) (ft (p 6 rfl) (ft (o 6 rfl) rfl)) (W.q2 _ (ft (p 5 rfl) g) (W.p1 (.bool (c == 45)) (W.p1 (.string e) (W.p1 (.string (⟨#[49]⟩ : zAd)) ?_))))))
  refine .nil (.ret ?_)
  obtain rfl := zAa ac
  exact zrb kr (v1 := (.bool (c == 45))) (v2 := (.string e)) (v3 := (.string (⟨#[49]⟩ : zAd))) (by rfl) rt rt rt aa (zAe C ab) rfl
 refine .block (AW.loop (α := Nat) (fun P j l => ∃ (m : Int) (f : GM), z48 K c e P m = some E /\ Ow f l (L) /\ GM.le B f /\ j 17 = .int .i64 m) (fun P => P) K ⟨0, _, Z, X, (zAf _), rfl⟩ ?_)
 rintro q
 rintro ay aC d ⟨a, aD, k, s, t, u⟩
 rcases q with _ | q
 .exact z09 k
 rw [z48] at k
 refine .seq (.region (W.q3 (.bool (decide (a < (e.size : Int)))) u (ft (d 16 rfl) rfl) (.nil (.seq (.cond (b := decide (a < (e.size : Int))) rfl rfl (fun w => ?_) (fun w => ?_))))))
 rotate_left
 .have ad := z0h w k
  refine .exit ?_
  obtain rfl := zAa ad
  exact ⟨_, rfl, s, t⟩
 have ae := z01 w k
 refine .skip (.seq (.block (.seq (.region (W.q2 _ u (W.p1 (.int .i64 a) ?_))))))
 refine .nil (.seq (.region (W.q2 _ (ft (d 5 rfl) g) (W.p2 (.int .i64 a) ?_))))
 obtain ⟨x, af, I⟩ := z00 ae
 refine W.pv (.int .u8 x) (zb3 un9 ov ov af) (W.p3 (.bool (x == 47)) (.nil (.cond (b := (x == 47)) rfl rfl (fun y => ?_) (fun y => ?_))))
 rotate_left
 .have ag := z0h y I
  refine .skip (.region (W.r3 (.int .i64 (z03 .i64 (a + 1))) u (W.p2 (.int .i64 (z03 .i64 (a + 1))) (.nil ?_))))
  exact ⟨q, zAg _, ⟨z03 .i64 (a + 1), _, ag, s, t, rfl⟩⟩
 have ah := z01 y I
 refine .seq (.draw2 (M := [0, 0, 0, 6, 0, 0, 32, 112, 1, 271, 1023]) mixed (by kernel_rfl) (by kernel_rfl) fun aE aF ai aG => ?_)
 have aj := s.ext ai
 refine D2.q2 (.bool (c == 45)) (ft (d 6 rfl) (ft (o 6 rfl) rfl)) (D2.q2 _ (ft (d 5 rfl) g) (D2.p2 (.int .i64 a) ?_))
 obtain ⟨z, ak, al⟩ := z00 ah
 refine D2.pv (.string z) (zl9 un9 ov ov ak) (D2.q2 _ (ft (d 5 rfl) g) (D2.p2 (.int .i64 a) (D2.p3 (.int .i64 (z03 .i64 (a + 1))) ?_)))
 obtain ⟨A, am, an⟩ := z00 al
 refine D2.pv (.string A) (zho un9 ov ov am) (D2.p1 (.bool (c == 45)) (D2.p1 (.string z) (D2.p1 (.string A) (.nil (.ret ?_)))))
 obtain rfl := zAa an
 have ao := zb2 (z3z F)
 obtain rfl := zAa ao
 exact zrb kr (v1 := (.bool (c == 45))) (v2 := (.string z)) (v3 := (.string A)) (by rfl) rt rt rt aj (zAe C t) rfl
def z7c (K : Nat) (b : zAd) : Option Int := ((z76 K b).bind fun a => (if (sEq a.2.1 (⟨#[48]⟩ : zAd)) = true then some 0 else (if a.1 = true then some (-1) else some 1)))
theorem zbh (e : zAd) (O : Ow G H (L)) (r : Int) (h : z7c K e = some r) :
    CR Tryz.prog 56 [(.string e)] G H (L) (fun v u _ => v = .int .i64 r) := by
 unfold z7c at h
 refine CR.og (n := 17) (fn := Tryz.f56) (by kernel_rfl) rfl rfl fun R kr => (.seq (.region (W.p1 (.int .i64 0) (.nil (.seq (.region ?_))))))
 refine W.p2 (.string e) ?_
 obtain ⟨a, o, j⟩ := z00 h
 refine W.ln (Lo.cQ Tryz.f72 (mc rfl mn) O (fun w p => z8l K e p _ o)) ?_
 rintro q s ⟨x, g, i, t, rfl⟩
 refine W.p2 (.tuple #[(.bool a.1), (.string a.2.1), (.string a.2.2)]) (W.pv (.bool a.1) (z0j ov rfl) (W.pv (.string a.2.1) (z0j ov rfl) (W.pv (.string a.2.2) (z0j ov rfl) (W.p1 (.bool a.1) (W.p1 (.string a.2.1) (W.p1 (.string a.2.2) ?_))))))
 refine .nil (.seq (.block (.seq (.region (W.p2 (.string a.2.1) (W.pv (.bool (sEq a.2.1 (⟨#[48]⟩ : zAd))) (z90 ov ov) ?_))))))
 refine W.p1 (.bool (sEq a.2.1 (⟨#[48]⟩ : zAd))) (.nil (.cond (b := sEq a.2.1 (⟨#[48]⟩ : zAd)) rfl rfl (fun c => ?_) (fun c => ?_)))
 .have k := z01 c j
  refine .seq (.region (W.p1 (.int .i64 0) (.nil (.ret ?_))))
  obtain rfl := zAa k
  exact z1m kr (v1 := (.int .i64 0)) (by rfl) rt g i rfl
 have f := z0h c j
 refine .seq (.region (W.p2 (.bool a.1) (W.p1 (.bool a.1) (.nil (.cond (b := a.1) rfl rfl (fun d => ?_) (fun d => ?_))))))
 .have l := z01 d f
  refine .seq (.region (W.p1 (.int .i64 (-1)) (.nil (.ret ?_))))
  obtain rfl := zAa l
  exact z1m kr (v1 := (.int .i64 (-1))) (by rfl) rt g i rfl
 have m := z0h d f
 refine .skip (.seq (.region (W.p1 (.int .i64 1) (.nil (.ret ?_)))))
 obtain rfl := zAa m
 exact z1m kr (v1 := (.int .i64 1)) (by rfl) rt g i rfl
def z8m (K : Nat) (g : Bool) (d : zAd) (e : zAd) : Option zAd := (if (sEq d (⟨#[48]⟩ : zAd)) = true then some (⟨#[48]⟩ : zAd) else ((z88 K d e).bind fun f => ((z7m K d f).bind fun b => ((z7m K e f).bind fun c => (Option.bind ((if g = true then (if ((⟨#[45]⟩ : zAd)).size + (b.1).size <= 4611686018427387904 then some ((⟨#[45]⟩ : zAd) ++ b.1) else none) else some b.1)) (tu1 fun a => (if (sEq c.1 (⟨#[49]⟩ : zAd)) = true then some a else (if (a).size + ((⟨#[47]⟩ : zAd)).size <= 4611686018427387904 then (if ((a ++ (⟨#[47]⟩ : zAd))).size + (c.1).size <= 4611686018427387904 then some ((a ++ (⟨#[47]⟩ : zAd)) ++ c.1) else none) else none))))))))
theorem zao (m : Bool) (e : zAd) (f : zAd) (O : Ow G H (L)) (r : zAd) (h : z8m K m e f = some r) :
    CR Tryz.prog 73 [(.bool m), (.string e), (.string f)] G H (L) (fun v w _ => v = .string r) := by
 unfold z8m at h
 refine CR.og (n := 35) (fn := Tryz.f73) (by kernel_rfl) rfl rfl fun R kr => (.seq (.region (W.p1 (.string (⟨#[]⟩ : zAd)) (.nil (.seq (.seq ?_))))))
 refine .region (W.p2 (.string e) (W.pv (.bool (sEq e (⟨#[48]⟩ : zAd))) (z90 ov ov) (.nil (.cond (b := sEq e (⟨#[48]⟩ : zAd)) rfl rfl (fun x => ?_) (fun x => ?_)))))
 .have af := z01 x h
  refine .seq (.region (W.p1 (.string (⟨#[48]⟩ : zAd)) (.nil (.ret ?_))))
  obtain rfl := zAa af
  exact z1m kr (v1 := (.string (⟨#[48]⟩ : zAd))) (by rfl) rt O (zAf _) rfl
 have ag := z0h x h
 refine .skip (.seq (.region (W.p2 (.string e) (W.p2 (.string f) ?_))))
 obtain ⟨g, ah, ai⟩ := z00 ag
 refine W.ln (Lo.cQ Tryz.f71 (mc rfl (mc rfl mn)) O (fun y i => zcb K e f i _ ah)) ?_
 rintro aq ar ⟨aB, aj, ak, al, rfl⟩
 refine W.p1 (.string g) (.nil (.seq (.region (W.p2 (.string e) (W.p2 (.string g) ?_)))))
 obtain ⟨c, z, A⟩ := z00 ai
 refine W.ln (Lo.cQ Tryz.f86 (mc rfl (mc rfl mn)) aj (fun y i => z9k K e g i _ z)) ?_
 rintro au av ⟨aw, B, C, am, rfl⟩
 refine W.p2 (.tuple #[(.string c.1), (.string c.2)]) (W.pv (.string c.1) (z0j ov rfl) (W.pv (.string c.2) (z0j ov rfl) (W.p1 (.string c.1) (.nil (.seq (.region ?_))))))
 refine W.p2 (.string f) (W.p2 (.string g) ?_)
 obtain ⟨a, E, F⟩ := z00 A
 refine W.ln (Lo.cQ Tryz.f86 (mc rfl (mc rfl mn)) B (fun y i => z9k K f g i _ E)) ?_
 rintro ax ay ⟨I, o, J, an, rfl⟩
 refine W.p2 (.tuple #[(.string a.1), (.string a.2)]) (W.pv (.string a.1) (z0j ov rfl) (W.pv (.string a.2) (z0j ov rfl) (W.p1 (.string a.1) (.nil (.seq (.seq ?_))))))
 refine .region (W.p2 (.bool m) (.nil ?_))
 obtain ⟨M, p, N⟩ := z00 F
 refine AW.midT (fun P ao => ∃ (S : zAd) (w : GM), S = M /\ Ow w ao (L) /\ GM.le I w /\ P 1 = .string S) ?_ ?_
 .refine .cond (b := m) rfl rfl (fun j => ?_) (fun j => ?_)
  rotate_left
  .have T := z0h j p
   refine .skip ?_
   obtain rfl := zAa T
   exact ⟨c.1, _, rfl, o, (zAf _), rfl⟩
  have U := z01 j p
  refine .region (W.p2 (.string c.1) ?_)
  obtain ⟨V, X⟩ := z2b U
  refine W.pv (.string ((⟨#[45]⟩ : zAd) ++ c.1)) (zfi V ov ov) (W.p1 (.string ((⟨#[45]⟩ : zAd) ++ c.1)) (.nil ?_))
  obtain rfl := zAa X
  exact ⟨((⟨#[45]⟩ : zAd) ++ c.1), _, rfl, o, (zAf _), rfl⟩
 rintro ap az k ⟨d, aA, rfl, q, Y, s⟩
 have t := zAe ak (zAe C (zAe J Y))
 have u := z0a N
 refine .seq (.seq (.region (W.q2 (.string a.1) (ft (k 2 rfl) rfl) (W.pv (.bool (sEq a.1 (⟨#[49]⟩ : zAd))) (z90 ov ov) (.nil (.cond (b := sEq a.1 (⟨#[49]⟩ : zAd)) rfl rfl (fun l => ?_) (fun l => ?_)))))))
 .have Z := z01 l u
  refine .seq (.region (W.q2 _ s (W.p1 (.string d) (.nil (.ret ?_)))))
  obtain rfl := zAa Z
  exact z1m kr (v1 := (.string d)) (by rfl) rt q t rfl
 have aa := z0h l u
 refine .skip (.seq (.region (W.q2 _ s ?_)))
 obtain ⟨ab, ac⟩ := z2b aa
 refine W.pv (.string (d ++ (⟨#[47]⟩ : zAd))) (zfi ab ov ov) (W.q2 (.string a.1) (ft (k 2 rfl) rfl) ?_)
 obtain ⟨ad, ae⟩ := z2b ac
 refine W.pv (.string ((d ++ (⟨#[47]⟩ : zAd)) ++ a.1)) (zfi ad ov ov) (W.p1 (.string ((d ++ (⟨#[47]⟩ : zAd)) ++ a.1)) (.nil (.ret ?_)))
 obtain rfl := zAa ae
 exact z1m kr (v1 := (.string ((d ++ (⟨#[47]⟩ : zAd)) ++ a.1))) (by rfl) rt q t rfl
def z89 (K : Nat) (c : zAd) : Option zAd := ((z76 K c).bind fun a => ((z8m K (!a.1) a.2.1 a.2.2).bind fun b => some b))
theorem zcc (c : zAd) (O : Ow G H (L)) (r : zAd) (h : z89 K c = some r) :
    CR Tryz.prog 57 [(.string c)] G H (L) (fun v z _ => v = .string r) := by
 unfold z89 at h
 refine CR.og (n := 17) (fn := Tryz.f57) (by kernel_rfl) rfl rfl fun R kr => (.seq (.region (W.p1 (.string (⟨#[]⟩ : zAd)) (.nil (.seq (.region ?_))))))
 refine W.p2 (.string c) ?_
 obtain ⟨b, k, l⟩ := z00 h
 refine W.ln (Lo.cQ Tryz.f72 (mc rfl mn) O (fun m e => z8l K c e _ k)) ?_
 rintro s t ⟨A, o, p, u, rfl⟩
 refine W.p2 (.tuple #[(.bool b.1), (.string b.2.1), (.string b.2.2)]) (W.pv (.bool b.1) (z0j ov rfl) (W.pv (.string b.2.1) (z0j ov rfl) (W.pv (.string b.2.2) (z0j ov rfl) (W.p1 (.bool b.1) (W.p1 (.string b.2.1) (W.p1 (.string b.2.2) ?_))))))
 refine .nil (.seq (.region (W.p2 (.bool b.1) (W.pv (.bool (!b.1)) (z1g (a := b.1) ov) (W.p2 (.string b.2.1) (W.p2 (.string b.2.2) ?_))))))
 obtain ⟨d, f, g⟩ := z00 l
 refine W.ln (Lo.cQ Tryz.f73 (mc rfl (mc rfl (mc rfl mn))) o (fun m e => zao K (!b.1) b.2.1 b.2.2 e _ f)) ?_
 rintro w x ⟨y, i, j, q, rfl⟩
 refine W.p1 (.string d) (.nil (.ret ?_))
 obtain rfl := zAa g
 exact z1m kr (v1 := (.string d)) (by rfl) rt i (zAe p j) rfl
def z9l (K : Nat) (a : zAd) : Option zAd := ((z7c K a).bind fun c => (if (decide (c < 0)) = true then ((z89 K a).bind fun b => some b) else some a))
theorem zgy (a : zAd) (O : Ow G H (L)) (r : zAd) (h : z9l K a = some r) :
    CR Tryz.prog 29 [(.string a)] G H (L) (fun v C _ => v = .string r) := by
 unfold z9l at h
 refine CR.og (n := 9) (fn := Tryz.f29) (by kernel_rfl) rfl rfl fun R kr => (.seq (.region (W.p1 (.string (⟨#[]⟩ : zAd)) (.nil (.seq (.seq ?_))))))
 refine .region (W.p2 (.string a) ?_)
 obtain ⟨f, s, g⟩ := z00 h
 refine W.ln (Lo.cQ Tryz.f56 (mc rfl mn) O (fun t e => zbh K a e _ s)) ?_
 rintro w x ⟨E, i, j, y, rfl⟩
 refine W.p3 (.bool (decide (f < 0))) (.nil (.cond (b := decide (f < 0)) rfl rfl (fun c => ?_) (fun c => ?_)))
 rotate_left
 .have k := z0h c g
  refine .skip (.seq (.region (W.p2 (.string a) (W.p1 (.string a) (.nil (.ret ?_))))))
  obtain rfl := zAa k
  exact z1m kr (v1 := (.string a)) (by rfl) rt i j rfl
 have l := z01 c g
 refine .seq (.region (W.p2 (.string a) ?_))
 obtain ⟨d, m, o⟩ := z00 l
 refine W.ln (Lo.cQ Tryz.f57 (mc rfl mn) i (fun t e => zcc K a e _ m)) ?_
 rintro z A ⟨B, p, q, u, rfl⟩
 refine W.p1 (.string d) (.nil (.ret ?_))
 obtain rfl := zAa o
 exact z1m kr (v1 := (.string d)) (by rfl) rt p (zAe j q) rfl
def z44 (K : Nat) : Nat -> Int -> zAd -> Option (zAd)
  | 0, _, _ => none
  | k + 1, a, b => (Option.bind ((if (decide (a > 0)) = true then some true else some (sEq b (⟨#[]⟩ : zAd)))) (tu1 fun d => (if d = true then ((ssl (⟨#[48, 49, 50, 51, 52, 53, 54, 55, 56, 57]⟩ : zAd) (Int.tmod a 10) (z03 .i64 ((Int.tmod a 10) + 1))).bind fun c => (if (c).size + (b).size <= 4611686018427387904 then z44 K k (z03 .i64 (Int.tdiv a 10)) (c ++ b) else none)) else some b)))
def z39 (K : Nat) : Nat -> Int -> Option zAd
  | 0, _ => none
  | D + 1, a => (if (decide (a >= 0)) = true then (Option.bind (z44 K K a (⟨#[]⟩ : zAd)) (tu1 fun c => some c)) else (if (a == (-9223372036854775808)) = true then some (⟨#[45, 57, 50, 50, 51, 51, 55, 50, 48, 51, 54, 56, 53, 52, 55, 55, 53, 56, 48, 56]⟩ : zAd) else (((z39 K D) (z03 .i64 (-a))).bind fun b => (if ((⟨#[45]⟩ : zAd)).size + (b).size <= 4611686018427387904 then some ((⟨#[45]⟩ : zAd) ++ b) else none))))
theorem zcd (K D : Nat) : ∀ {G : GM} {H : AH} {L : List Pc} (c : Int) (O : Ow G H (L)) (r : zAd) (h : z39 K D c = some r),
    CR Tryz.prog 31 [(.int .i64 c)] G H (L) (fun v f _ => v = .string r) := by
 induction D with
 | zero => intro G H L c O r h; exact z09 h
 | succ D ih =>
 intro G H L c O r h
 rw [z39] at h
 refine CR.og (n := 29) (fn := Tryz.f31) (by kernel_rfl) rfl rfl fun R kr => (.seq (.region (W.p1 (.string (⟨#[]⟩ : zAd)) (.nil (.seq (.seq ?_))))))
 refine .region (W.p2 (.int .i64 c) (W.p3 (.bool (decide (c >= 0))) (.nil (.cond (b := decide (c >= 0)) rfl rfl (fun I => ?_) (fun I => ?_)))))
 rotate_left
 .have x := z0h I h
  refine .skip (.seq (.seq (.region (W.p2 (.int .i64 c) (W.p3 (.bool (c == (-9223372036854775808))) (.nil ?_))))))
  refine .cond (b := (c == (-9223372036854775808))) rfl rfl (fun m => ?_) (fun m => ?_)
  .have N := z01 m x
   refine .seq (.region (W.p1 (.string (⟨#[45, 57, 50, 50, 51, 51, 55, 50, 48, 51, 54, 56, 53, 52, 55, 55, 53, 56, 48, 56]⟩ : zAd)) (.nil (.ret ?_))))
   obtain rfl := zAa N
   exact z1m kr (v1 := (.string (⟨#[45, 57, 50, 50, 51, 51, 55, 50, 48, 51, 54, 56, 53, 52, 55, 55, 53, 56, 48, 56]⟩ : zAd))) (by rfl) rt O (zAf _) rfl
  have P := z0h m x
  refine .skip (.seq (.region (W.p2 (.int .i64 c) (W.pv (.int .i64 (z03 .i64 (-c))) (zuf ov) ?_))))
  obtain ⟨o, S, T⟩ := z00 P
  refine W.ln (Lo.cQ Tryz.f31 (mc rfl mn) O (fun aM au => ih (z03 .i64 (-c)) au _ S)) ?_
  rintro aD aE ⟨aF, U, V, av, rfl⟩
  obtain ⟨X, Y⟩ := z2b T
  refine W.pv (.string ((⟨#[45]⟩ : zAd) ++ o)) (zfi X ov ov) (W.p1 (.string ((⟨#[45]⟩ : zAd) ++ o)) (.nil (.ret ?_)))
  obtain rfl := zAa Y
  exact z1m kr (v1 := (.string ((⟨#[45]⟩ : zAd) ++ o))) (by rfl) rt U V rfl
 have aw := z01 I h
 refine .seq (.region (W.p1 (.string (⟨#[]⟩ : zAd)) (.nil (.seq ?_))))
 obtain ⟨Z, ax, ay⟩ := z00 aw
 refine AW.midT (fun e p => ∃ (i : zAd) (f : GM), i = Z /\ Ow f p (L) /\ GM.le G f /\ e 3 = .string i) ?_ ?_
 rotate_left
 .rintro az aG aA ⟨y, aH, rfl, aa, ab, ac⟩
  have ad := z0a ay
  refine .seq (.region (W.q2 _ ac (W.p1 (.string y) (.nil (.ret ?_)))))
  obtain rfl := zAa ad
  exact z1m kr (v1 := (.string y)) (by rfl) rt aa ab rfl
 refine .block (AW.loop (α := Nat) (fun J e p => ∃ (i : Int) (ae : zAd) (f : GM), z44 K J i ae = some Z /\ Ow f p (L) /\ GM.le G f /\ e 0 = .int .i64 i /\ e 3 = .string ae) (fun J => J) K ⟨c, (⟨#[]⟩ : zAd), _, ax, O, (zAf _), rfl, rfl⟩ ?_)
 rintro M
 rintro aI aJ aB ⟨g, j, af, q, z, A, k, s⟩
 rcases M with _ | M
 .exact z09 q
 rw [z44] at q
 refine .seq (.seq ?_)
 obtain ⟨ag, B, ah⟩ := z00 q
 refine AW.midT (fun e p => ∃ (i : Bool) (f : GM), i = ag /\ Ow f p (L) /\ GM.le af f /\ e 11 = .bool i) ?_ ?_
 .refine .region (W.q2 _ k (W.p3 (.bool (decide (g > 0))) (W.p2 (.bool (decide (g > 0))) (W.splitAt (t := 8) (b := decide (g > 0)) rfl (fun u a => ?_) (fun u a => ?_)))))
  .have ai := z01 u B
   refine W.q6 rfl a (W.q6 rfl a (W.q4 (.bool true) a rfl (.nil ?_)))
   obtain rfl := zAa ai
   exact ⟨true, _, rfl, z, (zAf _), rfl⟩
  have aj := z0h u B
  refine W.q2 (hg := gk rfl rfl a rfl) _ s (W.pure (v := (.bool (sEq j (⟨#[]⟩ : zAd)))) (gl rfl a) rfl (z90 ov ov) (W.q5 (.bool (sEq j (⟨#[]⟩ : zAd))) a rfl (.nil ?_)))
  obtain rfl := zAa aj
  exact ⟨sEq j (⟨#[]⟩ : zAd), _, rfl, z, (zAf _), rfl⟩
 rintro aC aK d ⟨ak, aL, rfl, C, E, al⟩
 have F := z0a ah
 refine .cond (b := ak) rfl al (fun w => ?_) (fun w => ?_)
 rotate_left
 .have am := z0h w F
  refine .exit ?_
  obtain rfl := zAa am
  exact ⟨j, _, rfl, C, (zAe A E), (ft (d 3 rfl) s)⟩
 have an := z01 w F
 refine .skip (.block (.seq (.region (W.q2 _ (ft (d 0 rfl) k) (W.pv (.int .i64 (Int.tmod g 10)) (zl0 (by decide) ov ov) (W.q2 _ (ft (d 0 rfl) k) ?_))))))
 refine W.pv (.int .i64 (Int.tmod g 10)) (zl0 (by decide) ov ov) (W.p3 (.int .i64 (z03 .i64 ((Int.tmod g 10) + 1))) ?_)
 obtain ⟨l, ao, ap⟩ := z00 an
 refine W.pv (.string l) (zl8 un9 ov ov ov ao) (W.q2 _ (ft (d 3 rfl) s) ?_)
 obtain ⟨aq, ar⟩ := z2b ap
 refine W.pv (.string (l ++ j)) (zfi aq ov ov) (W.p1 (.string (l ++ j)) (.nil (.region (W.q2 _ (ft (d 0 rfl) k) (W.pv (.int .i64 (z03 .i64 (Int.tdiv g 10))) (zkz (by decide) ov ov) (W.p1 (.int .i64 (z03 .i64 (Int.tdiv g 10))) ?_))))))
 refine .nil ?_
 exact ⟨M, zAg _, ⟨z03 .i64 (Int.tdiv g 10), (l ++ j), _, ar, C, (zAe A E), rfl, rfl⟩⟩
end Go.Am.Tryz
/- Typed functions with the same answers as the program's, and the walks that show it. -/
namespace Go.Am.Tryz
open Go Go.Am Go.Proofs
variable (K : Nat) {G : GM} {H : AH} {L : List Pc}
def z45 (K : Nat) (e : zAd) (b : Int) (d : Int) : Nat -> List Int -> Int -> Option (List Int)
  | 0, _, _ => none
  | k + 1, c, a => (if (decide (a < (e.size : Int))) = true then ((idx c (z03 .i64 (b + a))).bind fun f => ((z6j K e a).bind fun g => ((idx c (z03 .i64 (b + a))).bind fun h => z45 K e b d k (List.set c (Int.toNat (z03 .i64 (b + a))) (z03 .i64 (f + (z03 .i64 (d * g))))) (z03 .i64 (a + 1))))) else some c)
def z3i (K : Nat) (e : List Int) : Nat -> List Int -> Int -> Option (List Int)
  | 0, _, _ => none
  | k + 1, b, a => (if (decide (a < (e.length : Int))) = true then (Option.bind (((idx b a).bind fun f => (if (decide (f > 9)) = true then ((idx b (z03 .i64 (a + 1))).bind fun c => ((idx b a).bind fun d => ((idx b (z03 .i64 (a + 1))).bind fun i => ((idx (List.set b (Int.toNat (z03 .i64 (a + 1))) (z03 .i64 (c + (z03 .i64 (Int.tdiv d 10))))) a).bind fun g => ((idx (List.set b (Int.toNat (z03 .i64 (a + 1))) (z03 .i64 (c + (z03 .i64 (Int.tdiv d 10))))) a).bind fun j => some (List.set (List.set b (Int.toNat (z03 .i64 (a + 1))) (z03 .i64 (c + (z03 .i64 (Int.tdiv d 10))))) (a.toNat) (Int.tmod g 10))))))) else some b))) (tu1 fun h => z3i K e k h (z03 .i64 (a + 1)))) else some b)
def z46 (K : Nat) (d : zAd) (f : zAd) : Nat -> List Int -> Int -> Option (List Int)
  | 0, _, _ => none
  | k + 1, c, a => (if (decide (a < (d.size : Int))) = true then ((z6j K d a).bind fun g => (Option.bind (z45 K f a g K c 0) (tu1 fun b => ((lsl b 0 (z03 .i64 ((b.length : Int) - 1))).bind fun h => (Option.bind (z3i K h K b 0) (tu1 fun e => z46 K d f k e (z03 .i64 (a + 1)))))))) else some c)
def z7o (K : Nat) (d : zAd) (e : zAd) : Option zAd := (lt (z03 .i64 ((z03 .i64 ((d.size : Int) + (e.size : Int))) + 1)) fun a => (if 0 <= a /\ a <= a /\ a <= 16777216 then (Option.bind (z46 K d e K (List.replicate (a.toNat) 0) 0) (tu1 fun b => ((zan K b).bind fun c => some c))) else none))
theorem z9m (s : zAd) (o : zAd) (O : Ow G H (L)) (r : zAd) (h : z7o K s o = some r) :
    CR Tryz.prog 87 [(.string s), (.string o)] G H (L) (fun v g _ => v = .string r) := by
 unfold z7o at h
 refine CR.og (n := 80) (fn := Tryz.f87) (by kernel_rfl) rfl rfl fun R kr => (.seq (.region (W.p1 (.string (⟨#[]⟩ : zAd)) (.nil (.seq (.region ?_))))))
 refine W.p2 (.string s) (W.pv (.int .i64 (s.size : Int)) (z2c ov un9) (W.p2 (.string o) (W.pv (.int .i64 (o.size : Int)) (z2c ov un9) (W.p3 (.int .i64 (z03 .i64 ((s.size : Int) + (o.size : Int)))) (W.p3 (.int .i64 (z03 .i64 ((z03 .i64 ((s.size : Int) + (o.size : Int))) + 1))) ?_)))))
 obtain ⟨aZ, bF, cd⟩ := z71 h
 obtain ⟨ce, cf⟩ := z2b cd
 refine W.ln (Lo.makeSlice (r := (rI .i64)) (x0 := 0) (a := aZ) (c := aZ) rfl el31 ze3 sz3 (by kernel_rfl) rfl by3 (by decide) (congrArg (Value.int .i64) bF) (congrArg (Value.int .i64) bF) ce (zI .i64) O) ?_
 rintro e cO ⟨cg, cC⟩
 refine W.p1 e (.nil (.seq (.seq (.region (W.p2 (.string s) (W.pv (.int .i64 (s.size : Int)) (z2c ov un9) ?_))))))
 refine W.p2 (.int .i64 0) (.nil ?_)
 obtain ⟨aJ, bG, bH⟩ := z00 cf
 refine AW.midT (fun p t => ∃ (k : List Int) (g : GM), k = aJ /\ Ow g t (eSl e 3 (rI .i64) k :: L) /\ GM.le G g) ?_ ?_
 rotate_left
 .rintro b7 ch aG ⟨a0, ci, rfl, a1, a2⟩
  have a3 := z0a bH
  refine .seq (.region (W.q2 e (ft (aG 5 rfl) rfl) ?_))
  obtain ⟨am, a4, a5⟩ := z00 a3
  refine W.ln (Lo.callB (j := 0) rfl rfl (fn := Tryz.f98) (by kernel_rfl) rfl (mc rfl mn) a1 (fun g bI hG an hB => zbz K e a0 hB an _ a4)) ?_
  rintro cj ck ⟨cl, a6, a7, b8, rfl⟩
  refine W.p1 (.string am) (.nil (.ret ?_))
  have a8 := a6.drop 0
  obtain rfl := zAa a5
  exact z1m kr (v1 := (.string am)) (by rfl) rt a8 (zAe a2 a7) rfl
 refine .block (AW.loop (α := Nat) (fun z p t => ∃ (k : List Int) (I : Int) (g : GM), z46 K s o z k I = some aJ /\ Ow g t (eSl e 3 (rI .i64) k :: L) /\ GM.le G g /\ p 19 = .int .i64 I) (fun z => z) K ⟨(List.replicate (aZ.toNat) 0), 0, _, bG, cg, (zAf _), rfl⟩ ?_)
 rintro ao
 rintro cm cD f ⟨aK, i, cE, af, aL, aM, ap⟩
 rcases ao with _ | ao
 .exact z09 af
 rw [z46] at af
 refine .seq (.region (W.q3 (.bool (decide (i < (s.size : Int)))) ap (ft (f 18 rfl) rfl) (.nil (.seq (.cond (b := decide (i < (s.size : Int))) rfl rfl (fun aq => ?_) (fun aq => ?_))))))
 rotate_left
 .have a9 := z0h aq af
  refine .exit ?_
  obtain rfl := zAa a9
  exact ⟨aK, _, rfl, aL, aM⟩
 have bJ := z01 aq af
 refine .skip (.seq (.block (.seq (.region (W.q2 _ ap (W.p1 (.int .i64 i) ?_))))))
 refine .nil (.seq (.region (W.q2 (.string s) (ft (f 0 rfl) rfl) (W.p2 (.int .i64 i) ?_))))
 obtain ⟨y, bK, bL⟩ := z00 bJ
 refine W.ln (Lo.cQ Tryz.f97 (mc rfl (mc rfl mn)) aL (fun bI an => z6g K s i an _ bK)) ?_
 rintro cF cG ⟨aN, bM, bN, cn, rfl⟩
 refine W.p1 (.int .i64 y) (.nil (.seq (.seq (.region (W.q2 (.string o) (ft (f 1 rfl) rfl) (W.pv (.int .i64 (o.size : Int)) (z2c ov un9) ?_))))))
 refine W.p2 (.int .i64 0) (.nil ?_)
 obtain ⟨aO, bO, bP⟩ := z00 bL
 refine AW.midT (fun p t => ∃ (k : List Int) (g : GM), k = aO /\ Ow g t (eSl e 3 (rI .i64) k :: L) /\ GM.le aN g) ?_ ?_
 .refine .block (AW.loop (α := Nat) (fun z p t => ∃ (k : List Int) (I : Int) (g : GM), z45 K o i y z k I = some aO /\ Ow g t (eSl e 3 (rI .i64) k :: L) /\ GM.le aN g /\ p 27 = .int .i64 I) (fun z => z) K ⟨aK, 0, _, bO, bM, (zAf _), rfl⟩ ?_)
  rintro ar
  rintro co cH A ⟨aP, l, cI, ag, aQ, aR, au⟩
  rcases ar with _ | ar
  .exact z09 ag
  rw [z45] at ag
  refine .seq (.region (W.q3 (.bool (decide (l < (o.size : Int)))) au (ft (A 26 rfl) rfl) (.nil (.seq (.cond (b := decide (l < (o.size : Int))) rfl rfl (fun av => ?_) (fun av => ?_))))))
  rotate_left
  .have bQ := z0h av ag
   refine .exit ?_
   obtain rfl := zAa bQ
   exact ⟨aP, _, rfl, aQ, aR⟩
  have bR := z01 av ag
  refine .skip (.seq (.block (.seq (.region (W.q2 _ au (W.p1 (.int .i64 l) ?_))))))
  refine .nil (.draw2 (M := [0, 0, 0, 6, 15, 31, 0, 0, 0, 384, 960, 2047, 4095, 8191]) mixed (by kernel_rfl) (by kernel_rfl) fun cJ cK bS cL => ?_)
  have ah := aQ.ext bS
  refine D2.q2 e (ft (A 5 rfl) (ft (f 5 rfl) rfl)) (D2.q2 (.int .i64 i) (ft (A 6 rfl) rfl) (D2.p2 (.int .i64 l) (D2.p3 (.int .i64 (z03 .i64 (i + l))) ?_)))
  obtain ⟨J, bT, bU⟩ := z00 bR
  have ai := z0c bT
  refine D2.pv (z1v e (Int.toNat (z03 .i64 (i + l)) * 1)) (z2a el31 sz3 ov ov (ah.slLen (j := 0) rfl) ai.1 ai.2.1) (D2.l1 (.int .i64 J) ag3 (z0i rfl (At.int (ah.atSl (j := 0) rfl ai.2.2))) z08 (D2.q2 (.int .i64 y) (ft (A 7 rfl) rfl) (D2.q2 (.string o) (ft (A 1 rfl) (ft (f 1 rfl) rfl)) (D2.p2 (.int .i64 l) ?_))))
  obtain ⟨N, bV, bW⟩ := z00 bU
  refine D2.lo rfl rfl (Lo.cQ Tryz.f97 (mc rfl (mc rfl mn)) ah (fun bI an => z6g K o l an _ bV)) ?_ z08 ?_ ?_
  .rintro aS aT ⟨aU, aj, aw, P, rfl⟩; exact (faR1 (.inr (P _ (Or.inr ⟨0, _, rfl, (ah.footSl (j := 0) rfl ai.2.2)⟩))) z08)
  .rintro aS aT ⟨aU, aj, aw, P, rfl⟩; exact z08
  rintro aS aT ⟨aU, aj, aw, P, rfl⟩
  refine D2.p3 (.int .i64 (z03 .i64 (y * N))) (D2.p3 (.int .i64 (z03 .i64 (J + (z03 .i64 (y * N))))) ?_)
  obtain ⟨cM, bX, bY⟩ := z00 bW
  have ax := z0c bX
  refine D2.pv (z1v e (Int.toNat (z03 .i64 (i + l)) * 1)) (z2a el31 sz3 ov ov (aj.slLen (j := 0) rfl) ax.1 ax.2.1) (D2.lo rfl rfl (Lo.storeSl0 (j := 0) (y0 := z03 .i64 (J + (z03 .i64 (y * N)))) (v := (.int .i64 (z03 .i64 (J + (z03 .i64 (y * N)))))) rfl ax.2.2  rfl sz3 rfl rfl rfl aj) ?_ (faK z08) ?_ ?_)
  .rintro aV aW ⟨ay, az⟩; exact (faI z08)
  .rintro aV aW ⟨ay, az⟩; exact z08
  rintro aV aW ⟨ay, az⟩
  refine .nil (.region (W.r3 (.int .i64 (z03 .i64 (l + 1))) au (W.p2 (.int .i64 (z03 .i64 (l + 1))) (.nil ?_))))
  exact ⟨ar, zAg _, ⟨(List.set aP (Int.toNat (z03 .i64 (i + l))) (z03 .i64 (J + (z03 .i64 (y * N))))), z03 .i64 (l + 1), _, bY, ay, (zAe aR aw), rfl⟩⟩
 rintro cp cN m ⟨aA, aX, rfl, aB, bZ⟩
 have b0 := z0a bP
 refine .seq (.region (W.q2 e (ft (m 5 rfl) (ft (f 5 rfl) rfl)) (W.q2 e (ft (m 5 rfl) (ft (f 5 rfl) rfl)) (W.pv (.int .i64 (aA.length : Int)) (z0q ov (aB.slLen (j := 0) rfl) (z05 el31)) (W.p3 (.int .i64 (z03 .i64 ((aA.length : Int) - 1))) ?_)))))
 obtain ⟨ak, b1, b2⟩ := z00 b0
 obtain ⟨b3, b4, b5⟩ := aB.view (j := 0) rfl el31 sz3 b1
 refine W.pv b3 (b4 ov ov) (W.pv (.int .i64 (ak.length : Int)) (z0q ov b5 (z05 el31)) (W.p2 (.int .i64 0) (.nil ?_)))
 obtain ⟨aY, b6, ba⟩ := z00 b2
 refine AW.midT (fun p t => ∃ (k : List Int) (g : GM), k = aY /\ Ow g t (eSl e 3 (rI .i64) k :: L) /\ GM.le aX g) ?_ ?_
 rotate_left
 .rintro b9 cq aH ⟨bb, cr, rfl, bc, bd⟩
  have be := z0a ba
  refine .region (W.q3 (.int .i64 (z03 .i64 (i + 1))) (ft (aH 19 rfl) (ft (m 19 rfl) ap)) rfl (W.p2 (.int .i64 (z03 .i64 (i + 1))) (.nil ?_)))
  exact ⟨ao, zAg _, ⟨bb, z03 .i64 (i + 1), _, be, bc, (zAe aM (zAe bN (zAe bZ bd))), rfl⟩⟩
 refine .block (AW.loop (α := Nat) (fun z p t => ∃ (k : List Int) (I : Int) (g : GM), z3i K ak z k I = some aY /\ Ow g t (eSl e 3 (rI .i64) k :: L) /\ GM.le aX g /\ p 50 = .int .i64 I) (fun z => z) K ⟨aA, 0, _, b6, aB, (zAf _), rfl⟩ ?_)
 rintro S
 rintro ca cs q ⟨T, d, bf, F, B, aC, U⟩
 rcases S with _ | S
 .exact z09 F
 rw [z3i] at F
 refine .seq (.region (W.q3 (.bool (decide (d < (ak.length : Int)))) U (ft (q 49 rfl) rfl) (.nil (.seq (.cond (b := decide (d < (ak.length : Int))) rfl rfl (fun V => ?_) (fun V => ?_))))))
 rotate_left
 .have bg := z0h V F
  refine .exit ?_
  obtain rfl := zAa bg
  exact ⟨T, _, rfl, B, aC⟩
 have bh := z01 V F
 refine .skip (.seq ?_)
 obtain ⟨bi, bj, bk⟩ := z00 bh
 refine AW.midT (fun p t => ∃ (k : List Int) (g : GM), k = bi /\ Ow g t (eSl e 3 (rI .i64) k :: L) /\ GM.le bf g) ?_ ?_
 rotate_left
 .rintro cb ct aI ⟨bl, cu, rfl, bm, bn⟩
  have bo := z0a bk
  refine .region (W.q3 (.int .i64 (z03 .i64 (d + 1))) (ft (aI 50 rfl) U) rfl (W.p2 (.int .i64 (z03 .i64 (d + 1))) (.nil ?_)))
  exact ⟨S, zAg _, ⟨bl, z03 .i64 (d + 1), _, bo, bm, (zAe aC bn), rfl⟩⟩
 refine .block (.seq (.region (W.q2 _ U (W.p1 (.int .i64 d) (.nil (.seq ?_))))))
 refine .region (W.q2 e (ft (q 5 rfl) (ft (m 5 rfl) (ft (f 5 rfl) rfl))) (W.p2 (.int .i64 d) ?_))
 obtain ⟨X, bp, aD⟩ := z00 bj
 have Y := z0c bp
 refine W.pv (z1v e (d.toNat * 1)) (z2a el31 sz3 ov ov (B.slLen (j := 0) rfl) Y.1 Y.2.1) (W.l1 (.int .i64 X) ag3 (z0i rfl (At.int (B.atSl (j := 0) rfl Y.2.2))) (W.p3 (.bool (decide (X > 9))) (.nil (.cond (b := decide (X > 9)) rfl rfl (fun Z => ?_) (fun Z => ?_)))))
 rotate_left
 .have bq := z0h Z aD
  refine .skip ?_
  obtain rfl := zAa bq
  exact ⟨T, _, rfl, B, (zAf _)⟩
 have br := z01 Z aD
 refine .seq (.draw2 (M := [0, 0, 2, 7, 15, 0, 0, 96, 224, 480, 1023, 2047, 4095]) mixed (by kernel_rfl) (by kernel_rfl) fun cv cw bs cx => ?_)
 have u := B.ext bs
 refine D2.q2 e (ft (q 5 rfl) (ft (m 5 rfl) (ft (f 5 rfl) rfl))) (D2.p2 (.int .i64 d) (D2.p3 (.int .i64 (z03 .i64 (d + 1))) ?_))
 obtain ⟨C, bt, bu⟩ := z00 br
 have aa := z0c bt
 refine D2.pv (z1v e (Int.toNat (z03 .i64 (d + 1)) * 1)) (z2a el31 sz3 ov ov (u.slLen (j := 0) rfl) aa.1 aa.2.1) (D2.l1 (.int .i64 C) ag3 (z0i rfl (At.int (u.atSl (j := 0) rfl aa.2.2))) z08 (D2.q2 e (ft (q 5 rfl) (ft (m 5 rfl) (ft (f 5 rfl) rfl))) (D2.p2 (.int .i64 d) ?_)))
 obtain ⟨w, bv, bw⟩ := z00 bu
 have ab := z0c bv
 refine D2.pv (z1v e (d.toNat * 1)) (z2a el31 sz3 ov ov (u.slLen (j := 0) rfl) ab.1 ab.2.1) (D2.l1 (.int .i64 w) ag3 (z0i rfl (At.int (u.atSl (j := 0) rfl ab.2.2))) z08 (D2.pv (.int .i64 (z03 .i64 (Int.tdiv w 10))) (zkz (by decide) ov ov) (D2.p3 (.int .i64 (z03 .i64 (C + (z03 .i64 (Int.tdiv w 10))))) ?_)))
 obtain ⟨cy, bx, bz⟩ := z00 bw
 have ac := z0c bx
 refine D2.pv (z1v e (Int.toNat (z03 .i64 (d + 1)) * 1)) (z2a el31 sz3 ov ov (u.slLen (j := 0) rfl) ac.1 ac.2.1) (D2.lo rfl rfl (Lo.storeSl0 (j := 0) (y0 := z03 .i64 (C + (z03 .i64 (Int.tdiv w 10)))) (v := (.int .i64 (z03 .i64 (C + (z03 .i64 (Int.tdiv w 10)))))) rfl ac.2.2  rfl sz3 rfl rfl rfl u) ?_ z08 ?_ ?_)
 .rintro aE aF ⟨x, al⟩; exact (faI (faI z08))
 .rintro aE aF ⟨x, al⟩; exact z08
 rintro aE aF ⟨x, al⟩
 refine .nil (.region (W.q2 e (ft (q 5 rfl) (ft (m 5 rfl) (ft (f 5 rfl) rfl))) (W.p2 (.int .i64 d) ?_)))
 obtain ⟨E, bA, bB⟩ := z00 bz
 have ad := z0c bA
 refine W.pv (z1v e (d.toNat * 1)) (z2a el31 sz3 ov ov (x.slLen (j := 0) rfl) ad.1 ad.2.1) (W.l1 (.int .i64 E) ag3 (z0i rfl (At.int (x.atSl (j := 0) rfl ad.2.2))) (W.pv (.int .i64 (Int.tmod E 10)) (zl0 (by decide) ov ov) ?_))
 obtain ⟨cz, bC, bD⟩ := z00 bB
 have ae := z0c bC
 refine W.pv (z1v e (d.toNat * 1)) (z2a el31 sz3 ov ov (x.slLen (j := 0) rfl) ae.1 ae.2.1) (W.ln (Lo.storeSl0 (j := 0) (y0 := Int.tmod E 10) (v := (.int .i64 (Int.tmod E 10))) rfl ae.2.2  rfl sz3 rfl rfl rfl x) ?_)
 rintro cA cB ⟨bE, cc⟩
 refine .nil ?_
 obtain rfl := zAa bD
 exact ⟨(List.set (List.set T (Int.toNat (z03 .i64 (d + 1))) (z03 .i64 (C + (z03 .i64 (Int.tdiv w 10))))) (d.toNat) (Int.tmod E 10)), _, rfl, bE, (zAf _)⟩
def z35 (K : Nat) (e : zAd) (f : zAd) : Nat -> List Int -> Int -> Int -> Option (List Int)
  | 0, _, _, _ => none
  | k + 1, g, d, a => (Option.bind ((if (decide (a < (e.size : Int))) = true then some true else (if (decide (a < (f.size : Int))) = true then some true else some (decide (d > 0))))) (tu1 fun h => (if h = true then ((z6j K e a).bind fun b => ((z6j K f a).bind fun c => (if g.length + [Int.tmod (z03 .i64 ((z03 .i64 (b + c)) + d)) 10].length <= 16777216 then (lt (z03 .i64 (Int.tdiv (z03 .i64 ((z03 .i64 (b + c)) + d)) 10)) fun i => z35 K e f k (g ++ [Int.tmod (z03 .i64 ((z03 .i64 (b + c)) + d)) 10]) i (z03 .i64 (a + 1))) else none))) else some g)))
def z9n (K : Nat) (c : zAd) (d : zAd) : Option zAd := (Option.bind (z35 K c d K [] 0 0) (tu1 fun a => ((zan K a).bind fun b => some b)))
theorem zgz (m : zAd) (k : zAd) (O : Ow G H (L)) (r : zAd) (h : z9n K m k = some r) :
    CR Tryz.prog 88 [(.string m), (.string k)] G H (L) (fun v o _ => v = .string r) := by
 unfold z9n at h
 refine CR.og (n := 43) (fn := Tryz.f88) (by kernel_rfl) rfl rfl fun R kr => (.seq (.region (W.p1 (.string (⟨#[]⟩ : zAd)) (.nil (.seq (.region ?_))))))
 refine W.p1 (.slice none 0 0) (.nil (.seq (.region (W.p1 (.int .i64 0) (.nil (.seq ?_))))))
 refine .seq (.region (W.p1 (.int .i64 0) (.nil ?_)))
 obtain ⟨aa, aQ, aR⟩ := z00 h
 refine AW.midT (fun l u => ∃ (q : List Int) (o : GM), q = aa /\ Ow o u (eSl (l 5) 3 (rI .i64) q :: L) /\ GM.le G o) ?_ ?_
 rotate_left
 .rintro w a2 aS ⟨ab, a3, rfl, ac, ad⟩
  have ae := z0a aR
  refine .seq (.region (W.p2 (w 5) ?_))
  obtain ⟨F, af, ag⟩ := z00 ae
  refine W.ln (Lo.callB (j := 0) rfl rfl (fn := Tryz.f98) (by kernel_rfl) rfl (mc rfl mn) ac (fun o ah hG x hB => zbz K (w 5) ab hB x _ af)) ?_
  rintro a4 aT ⟨a5, ai, aj, aU, rfl⟩
  refine W.p1 (.string F) (.nil (.ret ?_))
  have V := ai.drop 0
  obtain rfl := zAa ag
  exact z1m kr (v1 := (.string F)) (by rfl) rt V (zAe ad aj) rfl
 refine .block ?_
 have aV := O.nilSl 3 (rI .i64)
 refine AW.loop (α := Nat) (fun X l u => ∃ (q : List Int) (ak : Int) (al : Int) (o : GM), z35 K m k X q ak al = some aa /\ Ow o u (eSl (l 5) 3 (rI .i64) q :: L) /\ GM.le G o /\ l 6 = .int .i64 ak /\ l 7 = .int .i64 al) (fun X => X) K ⟨[], 0, 0, _, aQ, aV, (zAf _), rfl, rfl⟩ ?_
 rintro Y
 rintro y a6 p ⟨Z, g, i, am, z, A, I, J, s⟩
 rcases Y with _ | Y
 .exact z09 z
 rw [z35] at z
 refine .seq (.seq ?_)
 obtain ⟨an, M, ao⟩ := z00 z
 refine AW.midT (fun l u => ∃ (q : Bool) (o : GM), q = an /\ Ow o u (eSl (y 5) 3 (rI .i64) Z :: L) /\ GM.le am o /\ l 22 = .bool q) ?_ ?_
 .refine .region (W.q2 _ s (W.q2 (.string m) (ft (p 0 rfl) rfl) (W.pv (.int .i64 (m.size : Int)) (z2c ov un9) (W.p3 (.bool (decide (i < (m.size : Int)))) (W.p2 (.bool (decide (i < (m.size : Int)))) (W.splitAt (t := 13) (b := decide (i < (m.size : Int))) rfl (fun B a => ?_) (fun B a => ?_)))))))
  .have ap := z01 B M
   refine W.q6 rfl a (W.q6 rfl a (W.q6 rfl a (W.q6 rfl a (W.q4 (.bool true) a rfl (W.p2 (.bool true) (W.q6 rfl rfl ?_))))))
   refine W.q6 rfl rfl (W.q4 (.bool true) rfl rfl (.nil ?_))
   obtain rfl := zAa ap
   exact ⟨true, _, rfl, A, (zAf _), rfl⟩
  have N := z0h B M
  refine W.q2 (hg := gk rfl rfl a rfl) _ s (W.q2 (hg := gk rfl rfl a rfl) (.string k) (ft (p 1 rfl) rfl) (W.pure (v := (.int .i64 (k.size : Int))) (gl rfl a) rfl (z2c ov un9) (W.q3 (hg := gk rfl rfl a rfl) (.bool (decide (i < (k.size : Int)))) rfl rfl (W.q5 (.bool (decide (i < (k.size : Int)))) a rfl (W.p2 (.bool (decide (i < (k.size : Int)))) (W.splitAt (t := 19) (b := decide (i < (k.size : Int))) rfl (fun C f => ?_) (fun C f => ?_)))))))
  .have aq := z01 C N
   refine W.q6 rfl f (W.q6 rfl f (W.q4 (.bool true) f rfl (.nil ?_)))
   obtain rfl := zAa aq
   exact ⟨true, _, rfl, A, (zAf _), rfl⟩
  have ar := z0h C N
  refine W.q2 (hg := gk rfl rfl f rfl) _ J (W.q3 (hg := gk rfl rfl f rfl) (.bool (decide (g > 0))) rfl rfl (W.q5 (.bool (decide (g > 0))) f rfl (.nil ?_)))
  obtain rfl := zAa ar
  exact ⟨decide (g > 0), _, rfl, A, (zAf _), rfl⟩
 rintro aW a7 c ⟨au, a8, rfl, P, S, av⟩
 have T := z0a ao
 refine .cond (b := au) rfl av (fun E => ?_) (fun E => ?_)
 rotate_left
 .have aw := z0h E T
  refine .exit ?_
  obtain rfl := zAa aw
  exact ⟨Z, _, rfl, (Ow.reval (j := 0) P rfl (ft (c 5 rfl) rfl)), (zAe I S)⟩
 have ax := z01 E T
 refine .skip (.seq (.block (.seq (.region (W.q2 (.string m) (ft (c 0 rfl) (ft (p 0 rfl) rfl)) (W.q2 _ (ft (c 7 rfl) s) ?_))))))
 obtain ⟨d, ay, az⟩ := z00 ax
 refine W.ln (Lo.cQ Tryz.f97 (mc rfl (mc rfl mn)) P (fun ah x => z6g K m i x _ ay)) ?_
 rintro a9 ba ⟨bb, aA, aB, aX, rfl⟩
 refine W.q2 (.string k) (ft (c 1 rfl) (ft (p 1 rfl) rfl)) (W.q2 _ (ft (c 7 rfl) s) ?_)
 obtain ⟨e, aC, aD⟩ := z00 az
 refine W.ln (Lo.cQ Tryz.f97 (mc rfl (mc rfl mn)) aA (fun ah x => z6g K k i x _ aC)) ?_
 rintro bc bd ⟨be, aE, aF, aY, rfl⟩
 refine W.p3 (.int .i64 (z03 .i64 (d + e))) (W.q2 _ (ft (c 6 rfl) J) (W.p3 (.int .i64 (z03 .i64 ((z03 .i64 (d + e)) + g))) (W.p1 (.int .i64 (z03 .i64 ((z03 .i64 (d + e)) + g))) (.nil (.seq (.region ?_))))))
 refine W.q2 (y 5) (ft (c 5 rfl) rfl) (W.p2 (.int .i64 (z03 .i64 ((z03 .i64 (d + e)) + g))) (W.pv (.int .i64 (Int.tmod (z03 .i64 ((z03 .i64 (d + e)) + g)) 10)) (zl0 (by decide) ov ov) (W.ln (Lo.buildSlice (r := (rI .i64)) (vs := [(.int .i64 (Int.tmod (z03 .i64 ((z03 .i64 (d + e)) + g)) 10))]) (xs := [Int.tmod (z03 .i64 ((z03 .i64 (d + e)) + g)) 10]) el31 ze3 sz3 (by kernel_rfl) rfl (qc rfl qn) rfl (.cons rfl .nil) aE) ?_)))
 rintro bf bg ⟨U, aZ⟩
 obtain ⟨a0, aG, aH⟩ := z4a (j := 0) rfl U
 obtain ⟨aI, aJ⟩ := z2b aD
 refine W.ln (Lo.append (j := 1) (v := (y 5)) rfl rfl el31 ni31 ze3 sz3 by3 (by decide) (by decide) rfl aG aH aI U) ?_
 rintro aK bh ⟨aL, a1⟩
 refine W.p1 aK (.nil (.region (W.p2 (.int .i64 (z03 .i64 ((z03 .i64 (d + e)) + g))) (W.pv (.int .i64 (z03 .i64 (Int.tdiv (z03 .i64 ((z03 .i64 (d + e)) + g)) 10))) (zkz (by decide) ov ov) ?_))))
 obtain ⟨aM, aN, aO⟩ := z71 aJ
 refine W.q1 _ (congrArg (Value.int .i64) aN) (.nil (.region (W.q2 _ (ft (c 7 rfl) s) (W.p3 (.int .i64 (z03 .i64 (i + 1))) (W.p1 (.int .i64 (z03 .i64 (i + 1))) (.nil ?_))))))
 have aP := aL.drop 0
 exact ⟨Y, zAg _, ⟨(Z ++ [Int.tmod (z03 .i64 ((z03 .i64 (d + e)) + g)) 10]), aM, z03 .i64 (i + 1), _, aO, aP, (zAe I (zAe S (zAe aB aF))), rfl, rfl⟩⟩
def z9o (K : Nat) (n : zAd) (o : zAd) : Option zAd := ((z76 K n).bind fun d => ((z76 K o).bind fun a => ((z7o K d.2.1 a.2.2).bind fun b => ((z7o K a.2.1 d.2.2).bind fun c => ((z7o K d.2.2 a.2.2).bind fun e => (if (d.1 == a.1) = true then ((z9n K b c).bind fun i => ((z8m K d.1 i e).bind fun j => some j)) else ((z86 K b c).bind fun k => (Option.bind ((if (decide (k < 0)) = true then some (a.1, c, b) else some (d.1, b, c))) (tu3 fun l m f => ((z87 K m f).bind fun g => ((z8m K l g e).bind fun h => some h)))))))))))
theorem zh0 (o : zAd) (p : zAd) (O : Ow G H (L)) (r : zAd) (h : z9o K o p = some r) :
    CR Tryz.prog 74 [(.string o), (.string p)] G H (L) (fun v E _ => v = .string r) := by
 unfold z9o at h
 refine CR.og (n := 57) (fn := Tryz.f74) (by kernel_rfl) rfl rfl fun R kr => (.seq (.region (W.p1 (.string (⟨#[]⟩ : zAd)) (.nil (.seq (.region ?_))))))
 refine W.p2 (.string o) ?_
 obtain ⟨c, aT, aU⟩ := z00 h
 refine W.ln (Lo.cQ Tryz.f72 (mc rfl mn) O (fun g d => z8l K o d _ aT)) ?_
 rintro bc bd ⟨bA, aV, ad, be, rfl⟩
 refine W.p2 (.tuple #[(.bool c.1), (.string c.2.1), (.string c.2.2)]) (W.pv (.bool c.1) (z0j ov rfl) (W.pv (.string c.2.1) (z0j ov rfl) (W.pv (.string c.2.2) (z0j ov rfl) (W.p1 (.bool c.1) (W.p1 (.string c.2.1) (W.p1 (.string c.2.2) ?_))))))
 refine .nil (.seq (.region (W.p2 (.string p) ?_)))
 obtain ⟨a, ae, af⟩ := z00 aU
 refine W.ln (Lo.cQ Tryz.f72 (mc rfl mn) aV (fun g d => z8l K p d _ ae)) ?_
 rintro bf bg ⟨bh, ag, s, aW, rfl⟩
 refine W.p2 (.tuple #[(.bool a.1), (.string a.2.1), (.string a.2.2)]) (W.pv (.bool a.1) (z0j ov rfl) (W.pv (.string a.2.1) (z0j ov rfl) (W.pv (.string a.2.2) (z0j ov rfl) (W.p1 (.bool a.1) (W.p1 (.string a.2.1) (W.p1 (.string a.2.2) ?_))))))
 refine .nil (.seq (.region (W.p2 (.string c.2.1) (W.p2 (.string a.2.2) ?_))))
 obtain ⟨e, ah, ai⟩ := z00 af
 refine W.ln (Lo.cQ Tryz.f87 (mc rfl (mc rfl mn)) ag (fun g d => z9m K c.2.1 a.2.2 d _ ah)) ?_
 rintro bi bj ⟨bk, aj, t, aX, rfl⟩
 refine W.p2 (.string a.2.1) (W.p2 (.string c.2.2) ?_)
 obtain ⟨f, ak, al⟩ := z00 ai
 refine W.ln (Lo.cQ Tryz.f87 (mc rfl (mc rfl mn)) aj (fun g d => z9m K a.2.1 c.2.2 d _ ak)) ?_
 rintro bl bm ⟨bn, am, u, aY, rfl⟩
 refine W.p2 (.string c.2.2) (W.p2 (.string a.2.2) ?_)
 obtain ⟨i, an, w⟩ := z00 al
 refine W.ln (Lo.cQ Tryz.f87 (mc rfl (mc rfl mn)) am (fun g d => z9m K c.2.2 a.2.2 d _ an)) ?_
 rintro bo bp ⟨bq, x, y, aZ, rfl⟩
 refine W.p1 (.string e) (W.p1 (.string f) (W.p1 (.string i) (.nil (.seq (.seq (.region ?_))))))
 refine W.p2 (.bool c.1) (W.p2 (.bool a.1) (W.pv (.bool (c.1 == a.1)) (zku ov ov un4) (.nil (.cond (b := (c.1 == a.1)) rfl rfl (fun j => ?_) (fun j => ?_)))))
 .have ao := z01 j w
  refine .seq (.region (W.p2 (.bool c.1) (W.p2 (.string e) (W.p2 (.string f) ?_))))
  obtain ⟨ap, aq, ar⟩ := z00 ao
  refine W.ln (Lo.cQ Tryz.f88 (mc rfl (mc rfl mn)) x (fun g d => zgz K e f d _ aq)) ?_
  rintro br bs ⟨bt, au, av, a0, rfl⟩
  refine W.p2 (.string i) ?_
  obtain ⟨z, aw, ax⟩ := z00 ar
  refine W.ln (Lo.cQ Tryz.f73 (mc rfl (mc rfl (mc rfl mn))) au (fun g d => zao K c.1 ap i d _ aw)) ?_
  rintro bu bv ⟨bw, ay, az, a1, rfl⟩
  have aA := zAe ad (zAe s (zAe t (zAe u (zAe y (zAe av az)))))
  refine W.p1 (.string z) (.nil (.ret ?_))
  obtain rfl := zAa ax
  exact z1m kr (v1 := (.string z)) (by rfl) rt ay aA rfl
 have aB := z0h j w
 refine .skip (.seq (.seq (.region (W.p2 (.string e) (W.p2 (.string f) ?_)))))
 obtain ⟨A, aC, aD⟩ := z00 aB
 refine W.ln (Lo.cQ Tryz.f89 (mc rfl (mc rfl mn)) x (fun g d => zc9 K e f d _ aC)) ?_
 rintro bx bz ⟨aE, B, aF, a2, rfl⟩
 refine W.p3 (.bool (decide (A < 0))) (.nil ?_)
 obtain ⟨aG, C, aH⟩ := z00 aD
 refine AW.midT (fun k a3 => ∃ (aI : Bool) (aJ : zAd) (aK : zAd) (E : GM), (aI, aJ, aK) = aG /\ Ow E a3 (L) /\ GM.le aE E /\ k 5 = .bool aI /\ k 11 = .string aJ /\ k 12 = .string aK) ?_ ?_
 .refine .cond (b := decide (A < 0)) rfl rfl (fun l => ?_) (fun l => ?_)
  rotate_left
  .have aL := z0h l C
   refine .skip ?_
   obtain rfl := zAa aL
   exact ⟨c.1, e, f, _, rfl, B, (zAf _), rfl, rfl, rfl⟩
  have aM := z01 l C
  refine .region (W.p2 (.string f) (W.p2 (.string e) (W.p2 (.bool a.1) (W.p1 (.string f) (W.p1 (.string e) (W.p1 (.bool a.1) ?_))))))
  refine .nil ?_
  obtain rfl := zAa aM
  exact ⟨a.1, f, e, _, rfl, B, (zAf _), rfl, rfl, rfl⟩
 rintro aQ a4 q ⟨aN, aO, F, a5, rfl, I, J, M, N, P⟩
 have S := zb2 aH
 refine .seq (.region (W.q2 _ M (W.q2 _ N (W.q2 _ P ?_))))
 obtain ⟨T, U, V⟩ := z00 S
 refine W.ln (Lo.cQ Tryz.f90 (mc rfl (mc rfl mn)) I (fun g d => zca K aO F d _ U)) ?_
 rintro a6 a7 ⟨a8, X, Y, aR, rfl⟩
 refine W.q2 (.string i) (ft (q 13 rfl) rfl) ?_
 obtain ⟨m, Z, aa⟩ := z00 V
 refine W.ln (Lo.cQ Tryz.f73 (mc rfl (mc rfl (mc rfl mn))) X (fun g d => zao K aN T i d _ Z)) ?_
 rintro a9 ba ⟨bb, ab, ac, aS, rfl⟩
 have aP := zAe ad (zAe s (zAe t (zAe u (zAe y (zAe aF (zAe J (zAe Y ac)))))))
 refine W.p1 (.string m) (.nil (.ret ?_))
 obtain rfl := zAa aa
 exact z1m kr (v1 := (.string m)) (by rfl) rt ab aP rfl
def z9p (K : Nat) (b : zAd) (c : zAd) : Option zAd := ((z89 K c).bind fun d => ((z9o K b d).bind fun a => some a))
theorem zh1 (a : zAd) (b : zAd) (O : Ow G H (L)) (r : zAd) (h : z9p K a b = some r) :
    CR Tryz.prog 58 [(.string a), (.string b)] G H (L) (fun v z _ => v = .string r) := by
 unfold z9p at h
 refine CR.og (n := 9) (fn := Tryz.f58) (by kernel_rfl) rfl rfl fun R kr => (.seq (.region (W.p1 (.string (⟨#[]⟩ : zAd)) (.nil (.seq (.region ?_))))))
 refine W.p2 (.string a) (W.p2 (.string b) ?_)
 obtain ⟨j, k, l⟩ := z00 h
 refine W.ln (Lo.cQ Tryz.f57 (mc rfl mn) O (fun m d => zcc K b d _ k)) ?_
 rintro s t ⟨A, o, p, u, rfl⟩
 obtain ⟨c, e, f⟩ := z00 l
 refine W.ln (Lo.cQ Tryz.f74 (mc rfl (mc rfl mn)) o (fun m d => zh0 K a j d _ e)) ?_
 rintro w x ⟨y, g, i, q, rfl⟩
 refine W.p1 (.string c) (.nil (.ret ?_))
 obtain rfl := zAa f
 exact z1m kr (v1 := (.string c)) (by rfl) rt g (zAe p i) rfl
def z7p (K : Nat) (b : zAd) (c : zAd) : Option Int := ((z9p K b c).bind fun d => ((z7c K d).bind fun a => some a))
theorem zce (a : zAd) (b : zAd) (O : Ow G H (L)) (r : Int) (h : z7p K a b = some r) :
    CR Tryz.prog 30 [(.string a), (.string b)] G H (L) (fun v z _ => v = .int .i64 r) := by
 unfold z7p at h
 refine CR.og (n := 9) (fn := Tryz.f30) (by kernel_rfl) rfl rfl fun R kr => (.seq (.region (W.p1 (.int .i64 0) (.nil (.seq (.region ?_))))))
 refine W.p2 (.string a) (W.p2 (.string b) ?_)
 obtain ⟨j, k, l⟩ := z00 h
 refine W.ln (Lo.cQ Tryz.f58 (mc rfl (mc rfl mn)) O (fun m d => zh1 K a b d _ k)) ?_
 rintro s t ⟨A, o, p, u, rfl⟩
 obtain ⟨c, e, f⟩ := z00 l
 refine W.ln (Lo.cQ Tryz.f56 (mc rfl mn) o (fun m d => zbh K j d _ e)) ?_
 rintro w x ⟨y, g, i, q, rfl⟩
 refine W.p1 (.int .i64 c) (.nil (.ret ?_))
 obtain rfl := zAa f
 exact z1m kr (v1 := (.int .i64 c)) (by rfl) rt g (zAe p i) rfl
def z31 (K : Nat) (a : Int) (f : Branch) (g : List Bool) (h : zAd) (e : Int) (i : Int) : Nat -> List Bool -> List Int -> Int -> Option (List Bool × List Int)
  | 0, _, _, _ => none
  | k + 1, b, c, j => (if (decide (j < i)) = true then (Option.bind (((idx (List.set g (a.toNat) (decide (e > 0))) a).bind fun l => (Option.bind ((if l = true then ((idx c a).bind fun m => ((idx c a).bind fun u => some (List.set c (a.toNat) (z03 .i64 (m + 1))))) else ((idx c a).bind fun v => some (List.set c (a.toNat) 0)))) (tu1 fun d => ((idx (List.set g (a.toNat) (decide (e > 0))) a).bind fun n => (if n = true then ((idx b a).bind fun o => (if o = true then ((idx b a).bind fun w => some ((List.set b (a.toNat) true), d)) else ((idx d a).bind fun p => (if (decide (p > f.Hold)) = true then ((idx b a).bind fun x => some ((List.set b (a.toNat) true), d)) else ((z39 K K f.Short).bind fun q => ((z7p K h q).bind fun r => ((idx b a).bind fun y => some ((List.set b (a.toNat) (decide (r > 0))), d)))))))) else ((idx b a).bind fun z => some ((List.set b (a.toNat) false), d)))))))) (tu2 fun s t => z31 K a f g h e i k s t (z03 .i64 (j + 1)))) else some (b, c))
def z32 (K : Nat) (i : List (List zAd)) (p : List Int) (a : Int) (d : Branch) : Nat -> List Bool -> List Bool -> List Int -> Int -> Option (List Bool × List Bool × List Int)
  | 0, _, _, _, _ => none
  | k + 1, b, g, h, c => (if (decide (c < (i.length : Int))) = true then ((idx i c).bind fun q => ((idx q a).bind fun j => ((z9l K j).bind fun e => ((z39 K K d.Limit).bind fun l => ((z7p K e l).bind fun f => ((idx b a).bind fun r => ((idx p c).bind fun m => (Option.bind (z31 K a d b e f m K g h 0) (tu2 fun n o => z32 K i p a d k (List.set b (a.toNat) (decide (f > 0))) n o (z03 .i64 (c + 1))))))))))) else some (b, g, h))
def z3j (K : Nat) (e : Network) (i : List (List zAd)) (j : List Int) : Nat -> List Bool -> List Bool -> List Int -> Int -> Option (List Bool × List Bool × List Int)
  | 0, _, _, _, _ => none
  | k + 1, b, c, d, a => (if (decide (a < (e.Branches.length : Int))) = true then ((idx e.Branches a).bind fun l => (Option.bind (z32 K i j a l K b c d 0) (tu3 fun f g h => z3j K e i j k f g h (z03 .i64 (a + 1))))) else some (b, c, d))
def z7d (K : Nat) (a : Network) (e : List (List zAd)) (f : List Int) : Option (List Int × List Bool × List Bool × List (List zAd) × List Int) := (if 0 <= (a.Branches.length : Int) /\ (a.Branches.length : Int) <= (a.Branches.length : Int) /\ (a.Branches.length : Int) <= 16777216 then (if 0 <= (a.Branches.length : Int) /\ (a.Branches.length : Int) <= (a.Branches.length : Int) /\ (a.Branches.length : Int) <= 16777216 then (if 0 <= (a.Branches.length : Int) /\ (a.Branches.length : Int) <= (a.Branches.length : Int) /\ (a.Branches.length : Int) <= 16777216 then (Option.bind (z3j K a e f K (List.replicate (Int.toNat (a.Branches.length : Int)) false) (List.replicate (Int.toNat (a.Branches.length : Int)) false) (List.replicate (Int.toNat (a.Branches.length : Int)) 0) 0) (tu3 fun b c d => some (d, c, b, e, f))) else none) else none) else none)
theorem zft (b2 : List Value) (d : Network) (dC : z07.rep G b2 d) (v1 : Value) (J : List (List zAd)) (v2 : Value) (Y : List Int) (O : Ow G H (eSl v1 39 (rSl rS) J :: eSl v2 3 (rI .i64) Y :: L)) (r : List Int × List Bool × List Bool × List (List zAd) × List Int) (h : z7d K d J Y = some r) :
    CR Tryz.prog 9 [.agg b2.toArray, v1, v2] G H (eSl v1 39 (rSl rS) r.2.2.2.1 :: eSl v2 3 (rI .i64) r.2.2.2.2 :: L) (fun v z _ => ∃ (dD : Value), ∃ (dE : Value), ∃ (dF : Value), v = .tuple #[dD, dE, dF] /\ (rSl (rI .i64)).rep z [dD] r.1 /\ (rSl rB).rep z [dE] r.2.1 /\ (rSl rB).rep z [dF] r.2.2.1) := by
 unfold z7d at h
 refine CR.og (n := 111) (fn := Tryz.f9) (by kernel_rfl) rfl rfl fun R kr => (.seq (.region (W.ln (Lo.box (r := z07) (x0 := d) (v := (.agg b2.toArray)) rfl rfl dC O) ?_)))
 rintro fm fo ⟨ae, rfl, b3, e8⟩
 refine W.p1 (.slice none 0 0) (W.p1 (.slice none 0 0) (W.p1 (.slice none 0 0) (.nil (.seq (.region (W.pv (padd (.pointer (some ⟨ae, 0, none⟩)) 2) (z0f zd8 ov (b3.atVar (j := 0) rfl)) ?_))))))
 obtain ⟨ej, ek, el⟩ := At.sl (At.proj (b3.atVar (j := 0) rfl) z0z)
 refine W.l1 ej ag24 (z0i rfl ek) (W.pv (.int .i64 (d.Branches.length : Int)) (z0q ov (z0g el) (z05 el24)) (W.p1 (.int .i64 (d.Branches.length : Int)) (.nil (.seq (.draw2 (M := [0, 1, 0, 4, 0, 16, 3, 79, 255]) mixed (by kernel_rfl) (by kernel_rfl) fun fp e9 dG dH => ?_)))))
 have dI := b3.ext dG
 refine D2.p2 (.int .i64 (d.Branches.length : Int)) ?_
 obtain ⟨dJ, dK⟩ := z2b h
 refine D2.alloc (m := 9) rfl rfl (Al.makeSlice (r := (rI .i64)) (x0 := 0) (a := (d.Branches.length : Int)) (c := (d.Branches.length : Int)) rfl el31 ze3 sz3 (by kernel_rfl) rfl by3 (by decide) rfl rfl dJ (zI .i64)) (Free.up (by decide) dH) (by decide) dI ?_
 rintro q fa ⟨dL, em, dM⟩
 refine D2.p2 (.int .i64 (d.Branches.length : Int)) ?_
 obtain ⟨dN, dO⟩ := z2b dK
 refine D2.alloc (m := 9) rfl rfl (Al.makeSlice (r := rB) (x0 := false) (a := (d.Branches.length : Int)) (c := (d.Branches.length : Int)) rfl el43 ze4 sz4 (by kernel_rfl) rfl by4 (by decide) rfl rfl dN zB) (Free.up (by decide) dM) (by decide) dL ?_
 rintro u fb ⟨dP, en, dQ⟩
 refine D2.p2 (.int .i64 (d.Branches.length : Int)) ?_
 obtain ⟨dR, dS⟩ := z2b dO
 refine D2.alloc (m := 9) rfl rfl (Al.makeSlice (r := rB) (x0 := false) (a := (d.Branches.length : Int)) (c := (d.Branches.length : Int)) rfl el43 ze4 sz4 (by kernel_rfl) rfl by4 (by decide) rfl rfl dR zB) (Free.up (by decide) dQ) (by decide) dP ?_
 rintro w fc ⟨a8, eo, fd⟩
 refine D2.p1 (.slice (some ⟨q, 0, some 0⟩) (Int.toNat (d.Branches.length : Int)) (Int.toNat (d.Branches.length : Int))) (D2.p1 (.slice (some ⟨u, 0, some 0⟩) (Int.toNat (d.Branches.length : Int)) (Int.toNat (d.Branches.length : Int))) (D2.p1 (.slice (some ⟨w, 0, some 0⟩) (Int.toNat (d.Branches.length : Int)) (Int.toNat (d.Branches.length : Int))) (.nil (.seq (.seq (.region ?_))))))
 refine W.pv (padd (.pointer (some ⟨ae, 0, none⟩)) 2) (z0f zd8 ov (a8.atVar (j := 3) rfl)) ?_
 obtain ⟨bO, dT, a9⟩ := At.sl (At.proj (a8.atVar (j := 3) rfl) z0z)
 refine W.l1 bO ag24 (z0i rfl dT) (W.pv (.int .i64 (d.Branches.length : Int)) (z0q ov (z0g a9) (z05 el24)) (W.p2 (.int .i64 0) (.nil ?_)))
 obtain ⟨bP, dU, dV⟩ := z00 dS
 refine AW.midT (fun I N => ∃ (B : List Bool) (C : List Bool) (P : List Int) (z : GM), (B, C, P) = bP /\ Ow z N (eSl (.slice (some ⟨w, 0, some 0⟩) (Int.toNat (d.Branches.length : Int)) (Int.toNat (d.Branches.length : Int))) 4 rB B :: eSl (.slice (some ⟨u, 0, some 0⟩) (Int.toNat (d.Branches.length : Int)) (Int.toNat (d.Branches.length : Int))) 4 rB C :: eSl (.slice (some ⟨q, 0, some 0⟩) (Int.toNat (d.Branches.length : Int)) (Int.toNat (d.Branches.length : Int))) 3 (rI .i64) P :: eVar ae 29 z07 d :: eSl v1 39 (rSl rS) J :: eSl v2 3 (rI .i64) Y :: L) /\ GM.le G z) ?_ ?_
 rotate_left
 .rintro d7 ep af ⟨eq, er, es, et, rfl, b4, b5⟩
  have b6 := zb2 dV
  refine .seq (.region (W.q2 (.slice (some ⟨q, 0, some 0⟩) (Int.toNat (d.Branches.length : Int)) (Int.toNat (d.Branches.length : Int))) (ft (af 10 rfl) rfl) (W.q2 (.slice (some ⟨u, 0, some 0⟩) (Int.toNat (d.Branches.length : Int)) (Int.toNat (d.Branches.length : Int))) (ft (af 11 rfl) rfl) (W.q2 (.slice (some ⟨w, 0, some 0⟩) (Int.toNat (d.Branches.length : Int)) (Int.toNat (d.Branches.length : Int))) (ft (af 12 rfl) rfl) (W.p1 (.slice (some ⟨q, 0, some 0⟩) (Int.toNat (d.Branches.length : Int)) (Int.toNat (d.Branches.length : Int))) (W.p1 (.slice (some ⟨u, 0, some 0⟩) (Int.toNat (d.Branches.length : Int)) (Int.toNat (d.Branches.length : Int))) ?_))))))
  refine W.p1 (.slice (some ⟨w, 0, some 0⟩) (Int.toNat (d.Branches.length : Int)) (Int.toNat (d.Branches.length : Int))) (.nil (.ret ?_))
  obtain ⟨eu, b7, b8, b9⟩ := b4.frzSl (j := 2) rfl
  obtain ⟨ev, ca, ba, cb⟩ := b7.frzSl (j := 1) rfl
  obtain ⟨ew, cc, ao, cd⟩ := ca.frzSl (j := 0) rfl
  have ce := cc.drop 0
  obtain rfl := zAa b6
  exact zrb kr (v1 := (.slice (some ⟨q, 0, some 0⟩) (Int.toNat (d.Branches.length : Int)) (Int.toNat (d.Branches.length : Int)))) (v2 := (.slice (some ⟨u, 0, some 0⟩) (Int.toNat (d.Branches.length : Int)) (Int.toNat (d.Branches.length : Int)))) (v3 := (.slice (some ⟨w, 0, some 0⟩) (Int.toNat (d.Branches.length : Int)) (Int.toNat (d.Branches.length : Int)))) (by rfl) rt rt rt ce (zAe b5 (zAe b8 (zAe ba ao))) ⟨(.slice (some ⟨q, 0, some 0⟩) (Int.toNat (d.Branches.length : Int)) (Int.toNat (d.Branches.length : Int))), (.slice (some ⟨u, 0, some 0⟩) (Int.toNat (d.Branches.length : Int)) (Int.toNat (d.Branches.length : Int))), (.slice (some ⟨w, 0, some 0⟩) (Int.toNat (d.Branches.length : Int)) (Int.toNat (d.Branches.length : Int))), rfl, (RT.mono _ (zAe ba ao) b9), (RT.mono _ ao cb), cd⟩
 refine .block (AW.loop (α := Nat) (fun Z I N => ∃ (B : List Bool) (C : List Bool) (P : List Int) (bb : Int) (z : GM), z3j K d J Y Z B C P bb = some bP /\ Ow z N (eSl (.slice (some ⟨w, 0, some 0⟩) (Int.toNat (d.Branches.length : Int)) (Int.toNat (d.Branches.length : Int))) 4 rB B :: eSl (.slice (some ⟨u, 0, some 0⟩) (Int.toNat (d.Branches.length : Int)) (Int.toNat (d.Branches.length : Int))) 4 rB C :: eSl (.slice (some ⟨q, 0, some 0⟩) (Int.toNat (d.Branches.length : Int)) (Int.toNat (d.Branches.length : Int))) 3 (rI .i64) P :: eVar ae 29 z07 d :: eSl v1 39 (rSl rS) J :: eSl v2 3 (rI .i64) Y :: L) /\ GM.le G z /\ I 30 = .int .i64 bb) (fun Z => Z) K ⟨(List.replicate (Int.toNat (d.Branches.length : Int)) false), (List.replicate (Int.toNat (d.Branches.length : Int)) false), (List.replicate (Int.toNat (d.Branches.length : Int)) 0), 0, _, dU, a8, (zAf _), rfl⟩ ?_)
 rintro bc
 rintro ex fe A ⟨bQ, bR, bS, f, bT, aX, bd, am, aY⟩
 rcases bc with _ | bc
 .exact z09 aX
 rw [z3j] at aX
 refine .seq (.region (W.q3 (.bool (decide (f < (d.Branches.length : Int)))) aY (ft (A 29 rfl) rfl) (.nil (.seq (.cond (b := decide (f < (d.Branches.length : Int))) rfl rfl (fun be => ?_) (fun be => ?_))))))
 rotate_left
 .have cf := z0h be aX
  refine .exit ?_
  obtain rfl := zAa cf
  exact ⟨bQ, bR, bS, _, rfl, bd, am⟩
 have dW := z01 be aX
 refine .skip (.seq (.block (.seq (.region (W.q2 _ aY ?_)))))
 obtain ⟨y, dX, dY⟩ := z00 dW
 have bf := z0c dX
 refine W.pv (z1v bO (f.toNat * 9)) (z2a el24 sz50 (ou (ft (A 28 rfl) rfl)) (ou aY) (z0g (RT.mono _ am a9)) bf.1 bf.2.1) ?_
 obtain ⟨bU, dZ, bV⟩ := (At.le (At.le (z1h a9 bf.2.2) am am) (zAf _) bd.fro)
 refine W.loadA (cs := bU) rfl rfl ag50 sz50 (z0i rfl dZ) (RT.len _ bV) (W.ln (Lo.alloc (r := z0d) (x0 := (Branch.mk ByteArray.empty ByteArray.empty ByteArray.empty 0 0 0 0 0 0)) ze50 (by kernel_rfl) zai bd) ?_)
 rintro ff fg ⟨S, rfl, d0, ey⟩
 refine W.p1 (.int .i64 f) (W.ln (Lo.storeVar (j := 0) (s := z0d) (y0 := y) (v := (.agg bU.toArray)) (o := 0) rfl ((Put.at (Put.self _) _ _)) rfl sz50 rfl (by omega) rfl bV d0) ?_)
 rintro fh fi ⟨bW, ez⟩
 refine .nil (.seq (.region (W.q2 v1 (ft (A 1 rfl) rfl) (W.pv (.int .i64 (J.length : Int)) (z0q ov (bW.slLen (j := 5) rfl) (z05 el30)) (W.p2 (.int .i64 0) (.nil ?_))))))
 obtain ⟨bX, d1, d2⟩ := z00 dY
 refine AW.midT (fun I N => ∃ (B : List Bool) (C : List Bool) (P : List Int) (z : GM), (B, C, P) = bX /\ Ow z N (eVar S 50 z0d y :: eSl (.slice (some ⟨w, 0, some 0⟩) (Int.toNat (d.Branches.length : Int)) (Int.toNat (d.Branches.length : Int))) 4 rB B :: eSl (.slice (some ⟨u, 0, some 0⟩) (Int.toNat (d.Branches.length : Int)) (Int.toNat (d.Branches.length : Int))) 4 rB C :: eSl (.slice (some ⟨q, 0, some 0⟩) (Int.toNat (d.Branches.length : Int)) (Int.toNat (d.Branches.length : Int))) 3 (rI .i64) P :: eVar ae 29 z07 d :: eSl v1 39 (rSl rS) J :: eSl v2 3 (rI .i64) Y :: L) /\ GM.le bT z) ?_ ?_
 rotate_left
 .rintro d8 eA bK ⟨cg, ch, ci, eB, rfl, cj, ck⟩
  have cl := zb2 d2
  refine .region (W.q3 (.int .i64 (z03 .i64 (f + 1))) (ft (bK 30 rfl) aY) rfl (W.p2 (.int .i64 (z03 .i64 (f + 1))) (.nil ?_)))
  have cm := cj.drop 0
  exact ⟨bc, zAg _, ⟨cg, ch, ci, z03 .i64 (f + 1), _, cl, cm, (zAe am ck), rfl⟩⟩
 refine .block (AW.loop (α := Nat) (fun Z I N => ∃ (B : List Bool) (C : List Bool) (P : List Int) (bb : Int) (z : GM), z32 K J Y f y Z B C P bb = some bX /\ Ow z N (eVar S 50 z0d y :: eSl (.slice (some ⟨w, 0, some 0⟩) (Int.toNat (d.Branches.length : Int)) (Int.toNat (d.Branches.length : Int))) 4 rB B :: eSl (.slice (some ⟨u, 0, some 0⟩) (Int.toNat (d.Branches.length : Int)) (Int.toNat (d.Branches.length : Int))) 4 rB C :: eSl (.slice (some ⟨q, 0, some 0⟩) (Int.toNat (d.Branches.length : Int)) (Int.toNat (d.Branches.length : Int))) 3 (rI .i64) P :: eVar ae 29 z07 d :: eSl v1 39 (rSl rS) J :: eSl v2 3 (rI .i64) Y :: L) /\ GM.le bT z /\ I 37 = .int .i64 bb) (fun Z => Z) K ⟨bQ, bR, bS, 0, _, d1, bW, (zAf _), rfl⟩ ?_)
 rintro bg
 rintro eC fj g ⟨aa, bY, bZ, T, fk, aZ, an, b0, a0⟩
 rcases bg with _ | bg
 .exact z09 aZ
 rw [z32] at aZ
 refine .seq (.region (W.q3 (.bool (decide (T < (J.length : Int)))) a0 (ft (g 36 rfl) rfl) (.nil (.seq (.cond (b := decide (T < (J.length : Int))) rfl rfl (fun bh => ?_) (fun bh => ?_))))))
 rotate_left
 .have cn := z0h bh aZ
  refine .exit ?_
  obtain rfl := zAa cn
  exact ⟨aa, bY, bZ, _, rfl, an, b0⟩
 have d3 := z01 bh aZ
 refine .skip (.seq (.block (.seq (.region (W.q2 _ a0 ?_)))))
 obtain ⟨fl, d4, d5⟩ := z00 d3
 have bi := z0c d4
 refine W.pv (z1v v1 (T.toNat * 1)) (z2a el30 sz39 (ou (ft (g 35 rfl) rfl)) (ou a0) (an.slLen (j := 5) rfl) bi.1 bi.2.1) ?_
 obtain ⟨a1, d6, b1⟩ := At.sl (an.atSl (j := 5) rfl bi.2.2)
 refine W.l1 a1 ag39 (z0i rfl d6) (W.p1 (.int .i64 T) (W.p1 a1 (.nil (.seq (.region (W.p2 a1 ?_))))))
 refine W.q2 (.int .i64 f) (ft (g 13 rfl) rfl) ?_
 obtain ⟨bj, co, cp⟩ := z00 d5
 have ap := z0c co
 refine W.pv (z1v a1 (f.toNat * 1)) (z2a el39 sz57 ov ov (z0g b1) ap.1 ap.2.1) (W.l1 (.string bj) ag57 (z0i rfl (At.str (At.le (z1h b1 ap.2.2) (zAf _) an.fro))) ?_)
 obtain ⟨U, cq, cr⟩ := z00 cp
 refine W.ln (Lo.cQ Tryz.f29 (mc rfl mn) an (fun bL ag => zgy K bj ag _ cq)) ?_
 rintro eD eE ⟨eF, aq, ct, d9, rfl⟩
 refine W.p1 (.string U) (.nil (.seq (.region (W.q2 (.slice (some ⟨w, 0, some 0⟩) (Int.toNat (d.Branches.length : Int)) (Int.toNat (d.Branches.length : Int))) (ft (g 12 rfl) (ft (A 12 rfl) rfl)) (W.q2 (.int .i64 f) (ft (g 13 rfl) rfl) (W.p2 (.string U) ?_))))))
 refine W.pv (padd (.pointer (some ⟨S, 0, none⟩)) 6) (z0f zjf (ou (ft (g 14 rfl) rfl)) (aq.atVar (j := 0) rfl)) (W.l1 (.int .i64 y.Limit) ag3 (z0i rfl (At.int (At.proj (aq.atVar (j := 0) rfl) z4v))) ?_)
 obtain ⟨cu, cv, cw⟩ := z00 cr
 refine W.ln (Lo.cQ Tryz.f31 (mc rfl mn) aq (fun bL ag => zcd K K y.Limit ag _ cv)) ?_
 rintro eG eH ⟨eI, cx, cy, ea, rfl⟩
 obtain ⟨E, cz, cA⟩ := z00 cw
 refine W.ln (Lo.cQ Tryz.f30 (mc rfl (mc rfl mn)) cx (fun bL ag => zce K U cu ag _ cz)) ?_
 rintro eJ eK ⟨bk, bl, cB, eb, rfl⟩
 refine W.p3 (.bool (decide (E > 0))) ?_
 obtain ⟨eL, cC, cD⟩ := z00 cA
 have ar := z0c cC
 refine W.pv (z1v (.slice (some ⟨w, 0, some 0⟩) (Int.toNat (d.Branches.length : Int)) (Int.toNat (d.Branches.length : Int))) (f.toNat * 1)) (z2a el43 sz4 ov ov (bl.slLen (j := 1) rfl) ar.1 ar.2.1) (W.ln (Lo.storeSl0 (j := 1) (y0 := decide (E > 0)) (v := (.bool (decide (E > 0)))) rfl ar.2.2  rfl sz4 rfl rfl rfl bl) ?_)
 rintro eM eN ⟨au, ec⟩
 refine .nil (.seq (.region (W.q2 v2 (ft (g 2 rfl) (ft (A 2 rfl) rfl)) (W.p2 (.int .i64 T) ?_))))
 obtain ⟨ah, cE, cF⟩ := z00 cD
 have av := z0c cE
 refine W.pv (z1v v2 (T.toNat * 1)) (z2a el31 sz3 ov ov (au.slLen (j := 6) rfl) av.1 av.2.1) (W.l1 (.int .i64 ah) ag3 (z0i rfl (At.int (au.atSl (j := 6) rfl av.2.2))) (W.p2 (.int .i64 0) (.nil ?_)))
 obtain ⟨bm, cG, cH⟩ := z00 cF
 refine AW.midT (fun I N => ∃ (B : List Bool) (C : List Int) (z : GM), (B, C) = bm /\ Ow z N (eVar S 50 z0d y :: eSl (.slice (some ⟨w, 0, some 0⟩) (Int.toNat (d.Branches.length : Int)) (Int.toNat (d.Branches.length : Int))) 4 rB (List.set aa (f.toNat) (decide (E > 0))) :: eSl (.slice (some ⟨u, 0, some 0⟩) (Int.toNat (d.Branches.length : Int)) (Int.toNat (d.Branches.length : Int))) 4 rB B :: eSl (.slice (some ⟨q, 0, some 0⟩) (Int.toNat (d.Branches.length : Int)) (Int.toNat (d.Branches.length : Int))) 3 (rI .i64) C :: eVar ae 29 z07 d :: eSl v1 39 (rSl rS) J :: eSl v2 3 (rI .i64) Y :: L) /\ GM.le bk z) ?_ ?_
 rotate_left
 .rintro ed eO bM ⟨cI, cJ, eP, rfl, cK, cL⟩
  have cM := z3c cH
  refine .region (W.q3 (.int .i64 (z03 .i64 (T + 1))) (ft (bM 37 rfl) a0) rfl (W.p2 (.int .i64 (z03 .i64 (T + 1))) (.nil ?_)))
  exact ⟨bg, zAg _, ⟨(List.set aa (f.toNat) (decide (E > 0))), cI, cJ, z03 .i64 (T + 1), _, cM, cK, (zAe b0 (zAe ct (zAe cy (zAe cB cL)))), rfl⟩⟩
 refine .block (AW.loop (α := Nat) (fun Z I N => ∃ (B : List Bool) (C : List Int) (P : Int) (z : GM), z31 K f y aa U E ah Z B C P = some bm /\ Ow z N (eVar S 50 z0d y :: eSl (.slice (some ⟨w, 0, some 0⟩) (Int.toNat (d.Branches.length : Int)) (Int.toNat (d.Branches.length : Int))) 4 rB (List.set aa (f.toNat) (decide (E > 0))) :: eSl (.slice (some ⟨u, 0, some 0⟩) (Int.toNat (d.Branches.length : Int)) (Int.toNat (d.Branches.length : Int))) 4 rB B :: eSl (.slice (some ⟨q, 0, some 0⟩) (Int.toNat (d.Branches.length : Int)) (Int.toNat (d.Branches.length : Int))) 3 (rI .i64) C :: eVar ae 29 z07 d :: eSl v1 39 (rSl rS) J :: eSl v2 3 (rI .i64) Y :: L) /\ GM.le bk z /\ I 60 = .int .i64 P) (fun Z => Z) K ⟨bY, bZ, 0, _, cG, au, (zAf _), rfl⟩ ?_)
 rintro aw
 rintro ee eQ i ⟨V, ax, ab, bn, ai, F, bo, bp⟩
 rcases aw with _ | aw
 .exact z09 ai
 rw [z31] at ai
 refine .seq (.region (W.q3 (.bool (decide (ab < ah))) bp (ft (i 59 rfl) rfl) (.nil (.seq (.cond (b := decide (ab < ah)) rfl rfl (fun ay => ?_) (fun ay => ?_))))))
 rotate_left
 .have cN := z0h ay ai
  refine .exit ?_
  obtain rfl := zAa cN
  exact ⟨V, ax, _, rfl, F, bo⟩
 have cO := z01 ay ai
 refine .skip (.seq ?_)
 obtain ⟨cP, cR, cS⟩ := z00 cO
 refine AW.midT (fun I N => ∃ (B : List Bool) (C : List Int) (z : GM), (B, C) = cP /\ Ow z N (eVar S 50 z0d y :: eSl (.slice (some ⟨w, 0, some 0⟩) (Int.toNat (d.Branches.length : Int)) (Int.toNat (d.Branches.length : Int))) 4 rB (List.set aa (f.toNat) (decide (E > 0))) :: eSl (.slice (some ⟨u, 0, some 0⟩) (Int.toNat (d.Branches.length : Int)) (Int.toNat (d.Branches.length : Int))) 4 rB B :: eSl (.slice (some ⟨q, 0, some 0⟩) (Int.toNat (d.Branches.length : Int)) (Int.toNat (d.Branches.length : Int))) 3 (rI .i64) C :: eVar ae 29 z07 d :: eSl v1 39 (rSl rS) J :: eSl v2 3 (rI .i64) Y :: L) /\ GM.le bn z) ?_ ?_
 rotate_left
 .rintro ef eR bN ⟨cT, cU, eS, rfl, cV, cW⟩
  have cX := z3c cS
  refine .region (W.q3 (.int .i64 (z03 .i64 (ab + 1))) (ft (bN 60 rfl) bp) rfl (W.p2 (.int .i64 (z03 .i64 (ab + 1))) (.nil ?_)))
  exact ⟨aw, zAg _, ⟨cT, cU, z03 .i64 (ab + 1), _, cX, cV, (zAe bo cW), rfl⟩⟩
 refine .block (.seq (.seq (.region (W.q2 (.slice (some ⟨w, 0, some 0⟩) (Int.toNat (d.Branches.length : Int)) (Int.toNat (d.Branches.length : Int))) (ft (i 12 rfl) (ft (g 12 rfl) (ft (A 12 rfl) rfl))) (W.q2 (.int .i64 f) (ft (i 13 rfl) (ft (g 13 rfl) rfl)) ?_)))))
 obtain ⟨bq, cY, cZ⟩ := z00 cR
 have az := z0c cY
 refine W.pv (z1v (.slice (some ⟨w, 0, some 0⟩) (Int.toNat (d.Branches.length : Int)) (Int.toNat (d.Branches.length : Int))) (f.toNat * 1)) (z2a el43 sz4 ov ov (F.slLen (j := 1) rfl) az.1 az.2.1) (W.l1 (.bool bq) ag4 (z0i rfl (At.bool (F.atSl (j := 1) rfl az.2.2))) (.nil ?_))
 obtain ⟨c0, br, c1⟩ := z00 cZ
 refine AW.midT (fun I N => ∃ (B : List Int) (z : GM), B = c0 /\ Ow z N (eVar S 50 z0d y :: eSl (.slice (some ⟨w, 0, some 0⟩) (Int.toNat (d.Branches.length : Int)) (Int.toNat (d.Branches.length : Int))) 4 rB (List.set aa (f.toNat) (decide (E > 0))) :: eSl (.slice (some ⟨u, 0, some 0⟩) (Int.toNat (d.Branches.length : Int)) (Int.toNat (d.Branches.length : Int))) 4 rB V :: eSl (.slice (some ⟨q, 0, some 0⟩) (Int.toNat (d.Branches.length : Int)) (Int.toNat (d.Branches.length : Int))) 3 (rI .i64) B :: eVar ae 29 z07 d :: eSl v1 39 (rSl rS) J :: eSl v2 3 (rI .i64) Y :: L) /\ GM.le bn z) ?_ ?_
 .refine .cond (b := bq) rfl rfl (fun aA => ?_) (fun aA => ?_)
  rotate_left
  .have c2 := z0h aA br
   refine .region (W.q2 (.slice (some ⟨q, 0, some 0⟩) (Int.toNat (d.Branches.length : Int)) (Int.toNat (d.Branches.length : Int))) (ft (i 10 rfl) (ft (g 10 rfl) (ft (A 10 rfl) rfl))) (W.q2 (.int .i64 f) (ft (i 13 rfl) (ft (g 13 rfl) rfl)) ?_))
   obtain ⟨eT, c3, c4⟩ := z00 c2
   have aB := z0c c3
   refine W.pv (z1v (.slice (some ⟨q, 0, some 0⟩) (Int.toNat (d.Branches.length : Int)) (Int.toNat (d.Branches.length : Int))) (f.toNat * 1)) (z2a el31 sz3 ov ov (F.slLen (j := 3) rfl) aB.1 aB.2.1) (W.ln (Lo.storeSl0 (j := 3) (y0 := 0) (v := (.int .i64 0)) rfl aB.2.2  rfl sz3 rfl rfl rfl F) ?_)
   rintro eU eV ⟨c5, eg⟩
   refine .nil ?_
   obtain rfl := zAa c4
   exact ⟨(List.set ax (f.toNat) 0), _, rfl, c5, (zAf _)⟩
  have c6 := z01 aA br
  refine .region (W.q2 (.slice (some ⟨q, 0, some 0⟩) (Int.toNat (d.Branches.length : Int)) (Int.toNat (d.Branches.length : Int))) (ft (i 10 rfl) (ft (g 10 rfl) (ft (A 10 rfl) rfl))) (W.q2 (.int .i64 f) (ft (i 13 rfl) (ft (g 13 rfl) rfl)) ?_))
  obtain ⟨ac, c7, c8⟩ := z00 c6
  have aC := z0c c7
  refine W.pv (z1v (.slice (some ⟨q, 0, some 0⟩) (Int.toNat (d.Branches.length : Int)) (Int.toNat (d.Branches.length : Int))) (f.toNat * 1)) (z2a el31 sz3 ov ov (F.slLen (j := 3) rfl) aC.1 aC.2.1) (W.l1 (.int .i64 ac) ag3 (z0i rfl (At.int (F.atSl (j := 3) rfl aC.2.2))) (W.p3 (.int .i64 (z03 .i64 (ac + 1))) ?_))
  obtain ⟨eW, c9, da⟩ := z00 c8
  have aD := z0c c9
  refine W.pv (z1v (.slice (some ⟨q, 0, some 0⟩) (Int.toNat (d.Branches.length : Int)) (Int.toNat (d.Branches.length : Int))) (f.toNat * 1)) (z2a el31 sz3 ov ov (F.slLen (j := 3) rfl) aD.1 aD.2.1) (W.ln (Lo.storeSl0 (j := 3) (y0 := z03 .i64 (ac + 1)) (v := (.int .i64 (z03 .i64 (ac + 1)))) rfl aD.2.2  rfl sz3 rfl rfl rfl F) ?_)
  rintro eX eY ⟨db, eh⟩
  refine .nil ?_
  obtain rfl := zAa da
  exact ⟨(List.set ax (f.toNat) (z03 .i64 (ac + 1))), _, rfl, db, (zAf _)⟩
 rintro ei eZ x ⟨aj, e0, rfl, dc, ak⟩
 have dd := z0a c1
 refine .draw2 (M := [0, 0, 0, 0, 12, 28, 60, 124, 124, 508, 1020, 2044, 4092, 4092, 16380, 32764, 4092, 69628, 262140, 524284, 1048572, 2097148, 2097148, 6291452, 14680060, 33554428, 67108860, 134217724, 268435452, 536870911, 1073741823]) mixed (by kernel_rfl) (by kernel_rfl) fun e1 e2 de e3 => ?_
 have p := dc.ext de
 refine D2.q2 (.slice (some ⟨u, 0, some 0⟩) (Int.toNat (d.Branches.length : Int)) (Int.toNat (d.Branches.length : Int))) (ft (x 11 rfl) (ft (i 11 rfl) (ft (g 11 rfl) (ft (A 11 rfl) rfl)))) (D2.q2 (.int .i64 f) (ft (x 13 rfl) (ft (i 13 rfl) (ft (g 13 rfl) rfl))) (D2.q2 (.slice (some ⟨w, 0, some 0⟩) (Int.toNat (d.Branches.length : Int)) (Int.toNat (d.Branches.length : Int))) (ft (x 12 rfl) (ft (i 12 rfl) (ft (g 12 rfl) (ft (A 12 rfl) rfl)))) (D2.q2 (.int .i64 f) (ft (x 13 rfl) (ft (i 13 rfl) (ft (g 13 rfl) rfl))) ?_)))
 obtain ⟨aE, df, bs⟩ := z00 dd
 have aF := z0c df
 refine D2.pv (z1v (.slice (some ⟨w, 0, some 0⟩) (Int.toNat (d.Branches.length : Int)) (Int.toNat (d.Branches.length : Int))) (f.toNat * 1)) (z2a el43 sz4 ov ov (p.slLen (j := 1) rfl) aF.1 aF.2.1) (D2.l1 (.bool aE) ag4 (z0i rfl (At.bool (p.atSl (j := 1) rfl aF.2.2))) z08 (D2.p2 (.bool aE) (D2.splitAt (t := 81) (b := aE) rfl (fun aG e => ?_) (fun aG e => ?_))))
 rotate_left
 .have dg := z0h aG bs
  refine D2.skip (gl rfl e) rfl (D2.skip (gl rfl e) rfl (D2.skip (gl rfl e) rfl (D2.skip (gl rfl e) rfl (D2.skip (gl rfl e) rfl (D2.skipU rfl rfl rfl rfl (D2.skipU rfl rfl rfl rfl ?_))))))
  refine D2.skipU rfl rfl rfl rfl (D2.skipU rfl rfl rfl rfl (D2.skipU rfl rfl rfl rfl (D2.skipU rfl rfl rfl rfl (D2.skipU rfl rfl rfl rfl (D2.skip (gl rfl e) rfl (D2.skip (gl rfl e) rfl ?_))))))
  refine D2.skipU rfl rfl rfl rfl (D2.skipU rfl rfl rfl rfl (D2.skipU rfl rfl rfl rfl (D2.skipU rfl rfl rfl rfl (D2.skipU rfl rfl rfl rfl (D2.skipU rfl rfl rfl rfl (D2.skip (gl rfl e) rfl ?_))))))
  refine D2.pv (.bool false) (z8u (ou e) ov) ?_
  obtain ⟨e4, dh, di⟩ := z00 dg
  have aH := z0c dh
  refine D2.pv (z1v (.slice (some ⟨u, 0, some 0⟩) (Int.toNat (d.Branches.length : Int)) (Int.toNat (d.Branches.length : Int))) (f.toNat * 1)) (z2a el43 sz4 ov ov (p.slLen (j := 2) rfl) aH.1 aH.2.1) (D2.lo rfl rfl (Lo.storeSl0 (j := 2) (y0 := false) (v := (.bool false)) rfl aH.2.2  rfl sz4 rfl rfl rfl p) ?_ z08 ?_ ?_)
  .rintro bt bu ⟨aI, a2⟩; exact (faI z08)
  .rintro bt bu ⟨aI, a2⟩; exact z08
  rintro bt bu ⟨aI, a2⟩
  refine .nil ?_
  obtain rfl := zAa di
  exact ⟨(List.set V (f.toNat) false), aj, _, rfl, aI, ak⟩
 have dj := z01 aG bs
 refine D2.q2 (hg := gk rfl rfl e rfl) (.slice (some ⟨u, 0, some 0⟩) (Int.toNat (d.Branches.length : Int)) (Int.toNat (d.Branches.length : Int))) (ft (x 11 rfl) (ft (i 11 rfl) (ft (g 11 rfl) (ft (A 11 rfl) rfl)))) (D2.q2 (hg := gk rfl rfl e rfl) (.int .i64 f) (ft (x 13 rfl) (ft (i 13 rfl) (ft (g 13 rfl) rfl))) ?_)
 obtain ⟨aJ, dk, bv⟩ := z00 dj
 have aK := z0c dk
 refine D2.pure (v := (z1v (.slice (some ⟨u, 0, some 0⟩) (Int.toNat (d.Branches.length : Int)) (Int.toNat (d.Branches.length : Int))) (f.toNat * 1))) (gl rfl e) rfl (z2a el43 sz4 ov ov (p.slLen (j := 2) rfl) aK.1 aK.2.1) (D2.load1' (v := (.bool aJ)) (r := []) (gl rfl e) rfl ag4 (z0i rfl (At.bool (p.atSl (j := 2) rfl aK.2.2))) z08 (D2.q2 (hg := gk rfl rfl e rfl) (.bool aJ) rfl (D2.splitAt (t := 86) (b := aJ) rfl (fun aL k => ?_) (fun aL k => ?_))))
 .have dl := z01 aL bv
  refine D2.skip (gl rfl k) rfl (D2.skip (gl rfl k) rfl (D2.skip (gl rfl k) rfl (D2.skip (gl rfl k) rfl (D2.skip (gl rfl k) rfl (D2.skip (gl rfl k) rfl (D2.skip (gl rfl k) rfl ?_))))))
  refine D2.pure (v := (.bool true)) (gl rfl e) rfl (z68 (ou k) ov) (D2.q2 (hg := gk rfl rfl e rfl) (.bool true) rfl (D2.skip (gl rfl rfl) rfl (D2.skip (gl rfl rfl) rfl (D2.skip (gl rfl rfl) rfl (D2.skip (gl rfl rfl) rfl (D2.skip (gl rfl rfl) rfl ?_))))))
  refine D2.skip (gl rfl rfl) rfl (D2.pure (v := (.bool true)) (gl rfl e) rfl (z68 ov ov) (D2.pv (.bool true) (z68 (ou e) ov) ?_))
  obtain ⟨e5, dm, dn⟩ := z00 dl
  have aM := z0c dm
  refine D2.pv (z1v (.slice (some ⟨u, 0, some 0⟩) (Int.toNat (d.Branches.length : Int)) (Int.toNat (d.Branches.length : Int))) (f.toNat * 1)) (z2a el43 sz4 ov ov (p.slLen (j := 2) rfl) aM.1 aM.2.1) (D2.lo rfl rfl (Lo.storeSl0 (j := 2) (y0 := true) (v := (.bool true)) rfl aM.2.2  rfl sz4 rfl rfl rfl p) ?_ z08 ?_ ?_)
  .rintro bw bx ⟨aN, a3⟩; exact (faI (faI z08))
  .rintro bw bx ⟨aN, a3⟩; exact z08
  rintro bw bx ⟨aN, a3⟩
  refine .nil ?_
  obtain rfl := zAa dn
  exact ⟨(List.set V (f.toNat) true), aj, _, rfl, aN, ak⟩
 have dp := z0h aL bv
 refine D2.q2 (hg := gk rfl rfl k rfl) (.slice (some ⟨q, 0, some 0⟩) (Int.toNat (d.Branches.length : Int)) (Int.toNat (d.Branches.length : Int))) (ft (x 10 rfl) (ft (i 10 rfl) (ft (g 10 rfl) (ft (A 10 rfl) rfl)))) (D2.q2 (hg := gk rfl rfl k rfl) (.int .i64 f) (ft (x 13 rfl) (ft (i 13 rfl) (ft (g 13 rfl) rfl))) ?_)
 obtain ⟨ad, dq, bz⟩ := z00 dp
 have aO := z0c dq
 refine D2.pure (v := (z1v (.slice (some ⟨q, 0, some 0⟩) (Int.toNat (d.Branches.length : Int)) (Int.toNat (d.Branches.length : Int))) (f.toNat * 1))) (gl rfl k) rfl (z2a el31 sz3 ov ov (p.slLen (j := 3) rfl) aO.1 aO.2.1) (D2.load1' (v := (.int .i64 ad)) (r := []) (gl rfl k) rfl ag3 (z0i rfl (At.int (p.atSl (j := 3) rfl aO.2.2))) z08 (D2.pure (v := (padd (.pointer (some ⟨S, 0, none⟩)) 8)) (gl rfl k) rfl (z0f zjg (ou (ft (x 14 rfl) (ft (i 14 rfl) (ft (g 14 rfl) rfl)))) (p.atVar (j := 0) rfl)) (D2.load1' (v := (.int .i64 y.Hold)) (r := []) (gl rfl k) rfl ag3 (z0i rfl (At.int (At.proj (p.atVar (j := 0) rfl) z5n))) z08 (D2.q3 (hg := gk rfl rfl k rfl) (.bool (decide (ad > y.Hold))) rfl rfl (D2.pure (v := (.bool (decide (ad > y.Hold)))) (gl rfl e) rfl (z8u (ou k) ov) (D2.q2 (hg := gk rfl rfl e rfl) (.bool (decide (ad > y.Hold))) rfl ?_))))))
 refine D2.splitAt (t := 95) (b := decide (ad > y.Hold)) rfl (fun aP l => ?_) (fun aP l => ?_)
 .have dr := z01 aP bz
  refine D2.skip (gl rfl l) rfl (D2.skip (gl rfl l) rfl (D2.skip (gl rfl l) rfl (D2.skip (gl rfl l) rfl (D2.skip (gl rfl l) rfl (D2.skip (gl rfl l) rfl (D2.pure (v := (.bool true)) (gl rfl e) rfl (z68 (ou l) ov) ?_))))))
  refine D2.pv (.bool true) (z68 (ou e) ov) ?_
  obtain ⟨e6, ds, dt⟩ := z00 dr
  have aQ := z0c ds
  refine D2.pv (z1v (.slice (some ⟨u, 0, some 0⟩) (Int.toNat (d.Branches.length : Int)) (Int.toNat (d.Branches.length : Int))) (f.toNat * 1)) (z2a el43 sz4 ov ov (p.slLen (j := 2) rfl) aQ.1 aQ.2.1) (D2.lo rfl rfl (Lo.storeSl0 (j := 2) (y0 := true) (v := (.bool true)) rfl aQ.2.2  rfl sz4 rfl rfl rfl p) ?_ z08 ?_ ?_)
  .rintro bA bB ⟨aR, a4⟩; exact (faI (faI (faI (faI z08))))
  .rintro bA bB ⟨aR, a4⟩; exact z08
  rintro bA bB ⟨aR, a4⟩
  refine .nil ?_
  obtain rfl := zAa dt
  exact ⟨(List.set V (f.toNat) true), aj, _, rfl, aR, ak⟩
 have du := z0h aP bz
 refine D2.q2 (hg := gk rfl rfl l rfl) (.string U) (ft (x 17 rfl) (ft (i 17 rfl) rfl)) (D2.pure (v := (padd (.pointer (some ⟨S, 0, none⟩)) 7)) (gl rfl l) rfl (z0f zno (ou (ft (x 14 rfl) (ft (i 14 rfl) (ft (g 14 rfl) rfl)))) (p.atVar (j := 0) rfl)) (D2.load1' (v := (.int .i64 y.Short)) (r := []) (gl rfl l) rfl ag3 (z0i rfl (At.int (At.proj (p.atVar (j := 0) rfl) z73))) z08 ?_))
 obtain ⟨dv, dw, dx⟩ := z00 du
 refine D2.lo (gl rfl l) rfl (Lo.cQ Tryz.f31 (mc rfl mn) p (fun bL ag => zcd K K y.Short ag _ dw)) ?_ z08 ?_ ?_
 .rintro bC bD ⟨bE, aS, aT, a5, rfl⟩; exact (faI (faI (faI (faI (faI z08)))))
 .rintro bC bD ⟨bE, aS, aT, a5, rfl⟩; exact z08
 rintro bC bD ⟨bE, aS, aT, a5, rfl⟩
 obtain ⟨X, dy, dz⟩ := z00 dx
 refine D2.lo (gl rfl l) rfl (Lo.cQ Tryz.f30 (mc rfl (mc rfl mn)) aS (fun bL ag => zce K U dv ag _ dy)) ?_ (faK z08) ?_ ?_
 .rintro bF bG ⟨bH, al, aU, a6, rfl⟩; exact (faI (faI (faI (faI (faI z08)))))
 .rintro bF bG ⟨bH, al, aU, a6, rfl⟩; exact z08
 rintro bF bG ⟨bH, al, aU, a6, rfl⟩
 refine D2.q3 (hg := gk rfl rfl l rfl) (.bool (decide (X > 0))) rfl rfl (D2.pure (v := (.bool (decide (X > 0)))) (gl rfl e) rfl (z8u (ou l) ov) (D2.pv (.bool (decide (X > 0))) (z68 (ou e) ov) ?_))
 obtain ⟨e7, dA, dB⟩ := z00 dz
 have aV := z0c dA
 refine D2.pv (z1v (.slice (some ⟨u, 0, some 0⟩) (Int.toNat (d.Branches.length : Int)) (Int.toNat (d.Branches.length : Int))) (f.toNat * 1)) (z2a el43 sz4 ov ov (al.slLen (j := 2) rfl) aV.1 aV.2.1) (D2.lo rfl rfl (Lo.storeSl0 (j := 2) (y0 := decide (X > 0)) (v := (.bool (decide (X > 0)))) rfl aV.2.2  rfl sz4 rfl rfl rfl al) ?_ (faK (faK z08)) ?_ ?_)
 .rintro bI bJ ⟨aW, a7⟩; exact (faI (faI (faI (faI (faI z08)))))
 .rintro bI bJ ⟨aW, a7⟩; exact z08
 rintro bI bJ ⟨aW, a7⟩
 refine .nil ?_
 obtain rfl := zAa dB
 exact ⟨(List.set V (f.toNat) (decide (X > 0))), aj, _, rfl, aW, (zAe ak (zAe aT aU))⟩
structure RatingLeft where
  Name : zAd
  Left : Int
  deriving DecidableEq, Inhabited
def z15 : RT RatingLeft := rIso (rP rS (rI .i64)) (fun s : RatingLeft => (s.Name, s.Left))
theorem zdn (G : GM) : z15.rep G ([.string ByteArray.empty] ++ [.int .i64 0]) ((RatingLeft.mk ByteArray.empty 0)) := ⟨_, _, rfl, zS G, ((zI .i64) G)⟩
theorem zck : Put z15 0 rS (fun x y => { x with Name := y }) := by
  have h := Put.comp (Proj.iso (rP rS (rI .i64)) (fun s : RatingLeft => (s.Name, s.Left))) (Put.iso (rP rS (rI .i64)) (fun s : RatingLeft => (s.Name, s.Left)) (fun _ q => ⟨q.1, q.2⟩) (fun _ _ => rfl)) (Put.fst _ _)
  exact h
theorem zcl : Put z15 1 (rI .i64) (fun x y => { x with Left := y }) := by
  have h := Put.comp (Proj.iso (rP rS (rI .i64)) (fun s : RatingLeft => (s.Name, s.Left))) (Put.iso (rP rS (rI .i64)) (fun s : RatingLeft => (s.Name, s.Left)) (fun _ q => ⟨q.1, q.2⟩) (fun _ _ => rfl)) (Put.comp (Proj.snd _ _) (Put.snd _ _) (Put.self _))
  exact h
theorem z8z {G : GM} (a : Value) {b : zAd} (c : Value) {e : Int} (f : rS.rep G a.cells.toList b) (h : (rI .i64).rep G c.cells.toList e) : ∃ cs : List Value, (∀ {s : List Value} {d : Tmp} {ty : TypeId} {pos : String} {af : Array Edge} {g : Option (Nat × Bool)} {ps : Array (Nat × Operand)}, zga s ps.toList = some [(0, a), (1, c)] -> z2g Tryz.prog s ⟨some d, .build 52 ps, ty, pos, af, g⟩ = some (.agg cs.toArray)) /\ z15.rep G cs (RatingLeft.mk b e) := by
  have i := (zck G _ _ _ _ (zdn G) f).1
  have k1 := (zcl G _ _ _ _ (i) h).1
  refine ⟨_, fun {s d ty pos af g ps} hps => zaf pl52 ze52 zo52 hps ?_, k1⟩
  refine (z1o (off := 0) (sz := 1) (cs := _) rfl (RT.len _ f) (Nat.le_trans (Nat.le_of_ble_eq_true (m := 2) rfl) (Nat.le_of_eq (RT.len _ (zdn G)).symm))).trans ?_
  refine (z1o (off := 1) (sz := 1) (cs := _) rfl (RT.len _ h) (Nat.le_trans (Nat.le_of_ble_eq_true (m := 2) rfl) (Nat.le_of_eq (RT.len _ (i)).symm))).trans ?_
  rfl
def z1f (K : Nat) (b : Rating_Watch) : Nat -> List RatingLeft -> Int -> Option (List RatingLeft)
  | 0, _, _ => none
  | k + 1, e, a => (if (decide (a < (b.branches.length : Int))) = true then ((idx b.branches a).bind fun c => ((idx b.above a).bind fun f => (Option.bind ((if f = true then ((idx b.used a).bind fun g => some (imax 0 (z03 .i64 (c.Hold - g)))) else some (-1))) (tu1 fun h => ((idx b.over a).bind fun i => (Option.bind ((if i = true then some 0 else some h)) (tu1 fun d => (if e.length + [(RatingLeft.mk c.Name d)].length <= 16777216 then z1f K b k (e ++ [(RatingLeft.mk c.Name d)]) (z03 .i64 (a + 1)) else none)))))))) else some e)
def z2s (K : Nat) (b : Rating_Watch) : Option (List RatingLeft × Rating_Watch) := (Option.bind (z1f K b K [] 0) (tu1 fun a => some (a, b)))
theorem z9q (d : Nat) (v0_1 v0_2 v0_3 : Value) (a : Rating_Watch) (O : Ow G H (eVar d 62 z06 (a, v0_1, v0_2, v0_3) :: eSl v0_1 3 (rI .i64) a.used :: eSl v0_2 4 rB a.above :: eSl v0_3 4 rB a.over :: L)) (r : List RatingLeft × Rating_Watch) (h : z2s K a = some r) :
    CRF Tryz.prog 10 [.pointer (some ⟨d, 0, none⟩)] G H (fun ag => (eSl ag 52 z15 r.1 :: eVar d 62 z06 (r.2, v0_1, v0_2, v0_3) :: eSl v0_1 3 (rI .i64) r.2.used :: eSl v0_2 4 rB r.2.above :: eSl v0_3 4 rB r.2.over :: L)) (fun ag v i => ag = v) := by
 unfold z2s at h
 refine CRF.og (n := 51) (fn := Tryz.f10) (by kernel_rfl) rfl rfl fun R kr => (.seq (.region (W.p1 (.slice none 0 0) (.nil (.seq (.region ?_))))))
 refine W.p1 (.slice none 0 0) (.nil (.seq (.seq (.region (W.p2 (.pointer (some ⟨d, 0, none⟩)) (W.pv (.pointer (some ⟨d, 0, none⟩)) (z4l ov (O.atVar (j := 0) rfl)) ?_))))))
 refine W.pv (padd (.pointer (some ⟨d, 0, none⟩)) 0) (z0f znp ov (O.atVar (j := 0) rfl)) ?_
 obtain ⟨au, a9, ah⟩ := At.sl (At.proj (O.atVar (j := 0) rfl) z2k)
 refine W.l1 au ag24 (z0i rfl a9) (W.pv (.int .i64 (a.branches.length : Int)) (z0q ov (z0g ah) (z05 el24)) (W.p2 (.int .i64 0) (.nil ?_)))
 obtain ⟨av, ba, bb⟩ := z00 h
 refine AW.midT (fun f y => ∃ (l : List RatingLeft) (i : GM), l = av /\ Ow i y (eVar d 62 z06 (a, v0_1, v0_2, v0_3) :: eSl v0_1 3 (rI .i64) a.used :: eSl v0_2 4 rB a.above :: eSl v0_3 4 rB a.over :: eSl (f 3) 52 z15 l :: L) /\ GM.le G i) ?_ ?_
 rotate_left
 .rintro k bc a8 ⟨bd, be, rfl, ai, aj⟩
  have ak := z0a bb
  refine .seq (.region (W.p2 (k 3) (W.p1 (k 3) (.nil (.ret ?_)))))
  have al := ((((ai.front (j := 3) rfl).front (j := 3) rfl).front (j := 3) rfl).front (j := 3) rfl).front (j := 4) rfl
  obtain rfl := zAa ak
  exact z4j kr (k 3) (v1 := (k 3)) (by rfl) rt al aj rfl
 refine .block ?_
 have bf := O.nilSl 52 z15
 refine AW.loop (α := Nat) (fun am f y => ∃ (l : List RatingLeft) (aw : Int) (i : GM), z1f K a am l aw = some av /\ Ow i y (eSl (f 3) 52 z15 l :: eVar d 62 z06 (a, v0_1, v0_2, v0_3) :: eSl v0_1 3 (rI .i64) a.used :: eSl v0_2 4 rB a.above :: eSl v0_3 4 rB a.over :: L) /\ GM.le G i /\ f 12 = .int .i64 aw) (fun am => am) K ⟨[], 0, _, ba, bf, (zAf _), rfl⟩ ?_
 rintro an
 rintro u bo m ⟨X, c, ax, A, E, w, B⟩
 rcases an with _ | an
 .exact z09 A
 rw [z1f] at A
 refine .seq (.region (W.q3 (.bool (decide (c < (a.branches.length : Int)))) B (ft (m 11 rfl) rfl) (.nil (.seq (.cond (b := decide (c < (a.branches.length : Int))) rfl rfl (fun F => ?_) (fun F => ?_))))))
 rotate_left
 .have ao := z0h F A
  refine .exit ?_
  have ap := ((((E.front (j := 0) rfl).front (j := 4) rfl).front (j := 4) rfl).front (j := 4) rfl).front (j := 4) rfl
  obtain rfl := zAa ao
  exact ⟨X, _, rfl, ap, w⟩
 have ay := z01 F A
 refine .skip (.seq (.block (.seq (.region (W.q2 _ B ?_)))))
 obtain ⟨e, az, aA⟩ := z00 ay
 have I := z0c az
 refine W.pv (z1v au (c.toNat * 9)) (z2a el24 sz50 (ou (ft (m 10 rfl) rfl)) (ou B) (z0g (RT.mono _ w ah)) I.1 I.2.1) ?_
 obtain ⟨Y, aB, Z⟩ := (At.le (At.le (z1h ah I.2.2) w w) (zAf _) E.fro)
 refine W.loadA (cs := Y) rfl rfl ag50 sz50 (z0i rfl aB) (RT.len _ Z) (W.ln (Lo.alloc (r := z0d) (x0 := (Branch.mk ByteArray.empty ByteArray.empty ByteArray.empty 0 0 0 0 0 0)) ze50 (by kernel_rfl) zai E) ?_)
 rintro bp bq ⟨C, rfl, aC, bg⟩
 refine W.p1 (.int .i64 c) (W.ln (Lo.storeVar (j := 0) (s := z0d) (y0 := e) (v := (.agg Y.toArray)) (o := 0) rfl ((Put.at (Put.self _) _ _)) rfl sz50 rfl (by omega) rfl Z aC) ?_)
 rintro br bs ⟨p, bh⟩
 refine .nil (.seq (.region (W.p1 (.int .i64 (-1)) (.nil (.seq (.seq ?_))))))
 refine .region (W.q2 (.pointer (some ⟨d, 0, none⟩)) (ft (m 0 rfl) rfl) (W.pv (.pointer (some ⟨d, 0, none⟩)) (z4l ov (p.atVar (j := 2) rfl)) (W.pv (padd (.pointer (some ⟨d, 0, none⟩)) 2) (z0f zq3 ov (p.atVar (j := 2) rfl)) (W.l1 v0_2 ag43 (z0i rfl (At.raw (At.proj (p.atVar (j := 2) rfl) z4i))) (W.p2 (.int .i64 c) ?_)))))
 obtain ⟨aa, aD, aE⟩ := z00 aA
 have J := z0c aD
 refine W.pv (z1v v0_2 (c.toNat * 1)) (z2a el43 sz4 ov ov (p.slLen (j := 4) rfl) J.1 J.2.1) (W.l1 (.bool aa) ag4 (z0i rfl (At.bool (p.atSl (j := 4) rfl J.2.2))) (.nil ?_))
 obtain ⟨aF, ab, aG⟩ := z00 aE
 refine AW.midT (fun f y => ∃ (l : Int) (i : GM), l = aF /\ Ow i y (eVar C 50 z0d e :: eSl (u 3) 52 z15 X :: eVar d 62 z06 (a, v0_1, v0_2, v0_3) :: eSl v0_1 3 (rI .i64) a.used :: eSl v0_2 4 rB a.above :: eSl v0_3 4 rB a.over :: L) /\ GM.le ax i /\ f 6 = .int .i64 l) ?_ ?_
 .refine .cond (b := aa) rfl rfl (fun N => ?_) (fun N => ?_)
  rotate_left
  .have aH := z0h N ab
   refine .skip ?_
   obtain rfl := zAa aH
   exact ⟨(-1), _, rfl, p, (zAf _), rfl⟩
  have aI := z01 N ab
  refine .draw2 (M := [0, 1, 0, 4, 12, 28, 0, 124, 252, 511, 1023, 2047]) mixed (by kernel_rfl) (by kernel_rfl) fun bt bu aJ bv => ?_
  have g := p.ext aJ
  refine D2.pv (padd (.pointer (some ⟨C, 0, none⟩)) 8) (z0f zjg ov (g.atVar (j := 0) rfl)) (D2.l1 (.int .i64 e.Hold) ag3 (z0i rfl (At.int (At.proj (g.atVar (j := 0) rfl) z5n))) z08 (D2.q2 (.pointer (some ⟨d, 0, none⟩)) (ft (m 0 rfl) rfl) (D2.pv (.pointer (some ⟨d, 0, none⟩)) (z4l ov (g.atVar (j := 2) rfl)) (D2.pv (padd (.pointer (some ⟨d, 0, none⟩)) 1) (z0f znq ov (g.atVar (j := 2) rfl)) (D2.l1 v0_1 ag31 (z0i rfl (At.raw (At.proj (g.atVar (j := 2) rfl) z3e))) z08 (D2.p2 (.int .i64 c) ?_))))))
  obtain ⟨x, aK, aL⟩ := z00 aI
  have P := z0c aK
  refine D2.pv (z1v v0_1 (c.toNat * 1)) (z2a el31 sz3 ov ov (g.slLen (j := 3) rfl) P.1 P.2.1) (D2.l1 (.int .i64 x) ag3 (z0i rfl (At.int (g.atSl (j := 3) rfl P.2.2))) z08 (D2.p3 (.int .i64 (z03 .i64 (e.Hold - x))) (D2.pv (.int .i64 (imax 0 (z03 .i64 (e.Hold - x)))) (zpz ov ov) (D2.p1 (.int .i64 (imax 0 (z03 .i64 (e.Hold - x)))) (.nil ?_)))))
  obtain rfl := zAa aL
  exact ⟨imax 0 (z03 .i64 (e.Hold - x)), _, rfl, g, (zAf _), rfl⟩
 rintro bi bw q ⟨aM, aN, rfl, t, aO, aP⟩
 have aQ := z0a aG
 refine .seq (.seq (.region (W.q2 (.pointer (some ⟨d, 0, none⟩)) (ft (q 0 rfl) (ft (m 0 rfl) rfl)) (W.pv (.pointer (some ⟨d, 0, none⟩)) (z4l ov (t.atVar (j := 2) rfl)) (W.pv (padd (.pointer (some ⟨d, 0, none⟩)) 3) (z0f zlf ov (t.atVar (j := 2) rfl)) (W.l1 v0_3 ag43 (z0i rfl (At.raw (At.proj (t.atVar (j := 2) rfl) z2q))) ?_))))))
 refine W.q2 (.int .i64 c) (ft (q 4 rfl) rfl) ?_
 obtain ⟨ac, aR, aS⟩ := z00 aQ
 have S := z0c aR
 refine W.pv (z1v v0_3 (c.toNat * 1)) (z2a el43 sz4 ov ov (t.slLen (j := 5) rfl) S.1 S.2.1) (W.l1 (.bool ac) ag4 (z0i rfl (At.bool (t.atSl (j := 5) rfl S.2.2))) (.nil ?_))
 obtain ⟨aT, ad, aU⟩ := z00 aS
 refine AW.midT (fun f y => ∃ (l : Int) (i : GM), l = aT /\ Ow i y (eVar C 50 z0d e :: eSl (u 3) 52 z15 X :: eVar d 62 z06 (a, v0_1, v0_2, v0_3) :: eSl v0_1 3 (rI .i64) a.used :: eSl v0_2 4 rB a.above :: eSl v0_3 4 rB a.over :: L) /\ GM.le aN i /\ f 6 = .int .i64 l) ?_ ?_
 .refine .cond (b := ac) rfl rfl (fun T => ?_) (fun T => ?_)
  rotate_left
  .have aV := z0h T ad
   refine .skip ?_
   obtain rfl := zAa aV
   exact ⟨aM, _, rfl, t, (zAf _), aP⟩
  have aW := z01 T ad
  refine .region (W.p1 (.int .i64 0) (.nil ?_))
  obtain rfl := zAa aW
  exact ⟨0, _, rfl, t, (zAf _), rfl⟩
 rintro bj bx z ⟨U, aX, rfl, V, aY, aZ⟩
 have a0 := z0a aU
 refine .region (W.q2 (u 3) (ft (z 3 rfl) (ft (q 3 rfl) rfl)) (W.pv (padd (.pointer (some ⟨C, 0, none⟩)) 0) (z0f zje (ou (ft (z 5 rfl) (ft (q 5 rfl) rfl))) (V.atVar (j := 0) rfl)) (W.l1 (.string e.Name) ag9 (z0i rfl (At.str (At.proj (V.atVar (j := 0) rfl) z5m))) (W.q2 _ aZ ?_))))
 obtain ⟨ae, a1, a2⟩ := z8z (G := aX) ((.string e.Name)) ((.int .i64 U)) (rfl) (rfl)
 refine W.pv (.agg ae.toArray) (a1 (z3a rfl (qc' rfl (qc' rfl qn')))) (W.ln (Lo.buildSlice (r := z15) (vs := [(.agg ae.toArray)]) (xs := [(RatingLeft.mk e.Name U)]) el46 ze52 sz52 (by kernel_rfl) rfl (qc rfl qn) rfl (.cons a2 .nil) V) ?_)
 rintro bz bA ⟨af, bk⟩
 obtain ⟨bl, a3, a4⟩ := z4a (j := 0) rfl af
 obtain ⟨a5, a6⟩ := z2b a0
 refine W.ln (Lo.append (j := 2) (v := (u 3)) rfl rfl el46 ni46 ze52 sz52 by52 (by decide) (by decide) rfl a3 a4 a5 af) ?_
 rintro aq bm ⟨a7, bn⟩
 refine W.p1 aq (.nil (.region (W.q3 (.int .i64 (z03 .i64 (c + 1))) (ft (z 12 rfl) (ft (q 12 rfl) B)) rfl (W.p2 (.int .i64 (z03 .i64 (c + 1))) (.nil ?_)))))
 have ar := (a7.drop 0).drop 0
 exact ⟨an, zAg _, ⟨(X ++ [(RatingLeft.mk e.Name U)]), z03 .i64 (c + 1), _, a6, ar, (zAe w (zAe aO aY)), rfl⟩⟩
def z3k (K : Nat) (a : Rating_Watch) : Option (Int × Rating_Watch) := some (a.time, a)
theorem z9r (b : Nat) (v0_1 v0_2 v0_3 : Value) (a : Rating_Watch) (O : Ow G H (eVar b 62 z06 (a, v0_1, v0_2, v0_3) :: eSl v0_1 3 (rI .i64) a.used :: eSl v0_2 4 rB a.above :: eSl v0_3 4 rB a.over :: L)) (r : Int × Rating_Watch) (h : z3k K a = some r) :
    CR Tryz.prog 11 [.pointer (some ⟨b, 0, none⟩)] G H (eVar b 62 z06 (r.2, v0_1, v0_2, v0_3) :: eSl v0_1 3 (rI .i64) r.2.used :: eSl v0_2 4 rB r.2.above :: eSl v0_3 4 rB r.2.over :: L) (fun v c _ => v = .int .i64 r.1) := by
 unfold z3k at h
 refine CR.og (n := 7) (fn := Tryz.f11) (by kernel_rfl) rfl rfl fun R kr => (.seq (.region (W.p1 (.int .i64 0) (.nil (.seq (.region ?_))))))
 refine W.p2 (.pointer (some ⟨b, 0, none⟩)) (W.pv (.pointer (some ⟨b, 0, none⟩)) (z4l ov (O.atVar (j := 0) rfl)) (W.pv (padd (.pointer (some ⟨b, 0, none⟩)) 4) (z0f znr ov (O.atVar (j := 0) rfl)) (W.l1 (.int .i64 a.time) ag3 (z0i rfl (At.int (At.proj (O.atVar (j := 0) rfl) z4q))) (W.p1 (.int .i64 a.time) (.nil (.ret ?_))))))
 obtain rfl := zAa h
 exact z1m kr (v1 := (.int .i64 a.time)) (by rfl) rt O (zAf _) rfl
def z0p (K : Nat) (b : List zAd) (c : List zAd) : Nat -> Int -> Option (Bool ⊕ Unit)
  | 0, _ => none
  | k + 1, a => (if (decide (a < (b.length : Int))) = true then ((idx b a).bind fun d => ((idx c a).bind fun e => (if (!(sEq d e)) = true then some (.inl false) else z0p K b c k (z03 .i64 (a + 1))))) else some (.inr ()))
def z0k (K : Nat) (a : List zAd) (b : List zAd) : Option Bool := (if ((a.length : Int) != (b.length : Int)) = true then some false else (z70 (z0p K a b K 0) (tu1 fun c => some c) (tu0 (some true))))
theorem z47 (j : Value) (d : List zAd) (f : (rSl rS).rep G [j] d) (v1 : Value) (k : List zAd) (m : (rSl rS).rep G [v1] k) (O : Ow G H (L)) (r : Bool) (h : z0k K d k = some r) :
    CR Tryz.prog 12 [j, v1] G H (L) (fun v l _ => v = .bool r) := by
 unfold z0k at h
 refine CR.og (n := 26) (fn := Tryz.f12) (by kernel_rfl) rfl rfl fun R kr => (.seq (.region (W.p1 (.bool false) (.nil (.seq (.seq ?_))))))
 refine .region (W.p2 j (W.pv (.int .i64 (d.length : Int)) (z0q ov (z0g f) (z05 el22)) (W.p2 v1 (W.pv (.int .i64 (k.length : Int)) (z0q ov (z0g m) (z05 el22)) (W.p3 (.bool ((d.length : Int) != (k.length : Int))) (.nil ?_))))))
 refine .cond (b := ((d.length : Int) != (k.length : Int))) rfl rfl (fun A => ?_) (fun A => ?_)
 .have ad := z01 A h
  refine .seq (.region (W.p1 (.bool false) (.nil (.ret ?_))))
  obtain rfl := zAa ad
  exact z1m kr (v1 := (.bool false)) (by rfl) rt O (zAf _) rfl
 have ae := z0h A h
 refine .skip (.seq (.seq (.region (W.p2 j (W.pv (.int .i64 (d.length : Int)) (z0q ov (z0g f) (z05 el22)) (W.p2 (.int .i64 0) ?_))))))
 refine .nil ?_
 obtain ⟨F, af, I⟩ := z1w ae
 refine AW.midT (fun x B => ∃  (l : GM), (.inr ()) = F /\ Ow l B (L) /\ GM.le G l) ?_ ?_
 rotate_left
 .rintro ag ai ah ⟨aj, rfl, J, N⟩
  have P := z7i (z72 I)
  refine .seq (.region (W.p1 (.bool true) (.nil (.ret ?_))))
  obtain rfl := zAa P
  exact z1m kr (v1 := (.bool true)) (by rfl) rt J N rfl
 refine .block (AW.loop (α := Nat) (fun C x B => ∃ (S : Int) (l : GM), z0p K d k C S = some F /\ Ow l B (L) /\ GM.le G l /\ x 13 = .int .i64 S) (fun C => C) K ⟨0, _, af, O, (zAf _), rfl⟩ ?_)
 rintro E
 rintro ak al e ⟨c, am, g, y, a, o⟩
 rcases E with _ | E
 .exact z09 g
 rw [z0p] at g
 refine .seq (.region (W.q3 (.bool (decide (c < (d.length : Int)))) o (ft (e 12 rfl) rfl) (.nil (.seq (.cond (b := decide (c < (d.length : Int))) rfl rfl (fun p => ?_) (fun p => ?_))))))
 rotate_left
 .have T := z0h p g
  refine .exit ?_
  obtain rfl := zAa T
  exact ⟨_, rfl, y, a⟩
 have U := z01 p g
 refine .skip (.seq (.block (.seq (.region (W.q2 _ o (W.p1 (.int .i64 c) ?_))))))
 refine .nil (.seq (.draw2 (M := [0, 0, 3, 7, 0, 0, 48, 112, 255]) mixed (by kernel_rfl) (by kernel_rfl) fun an ao V ap => ?_))
 have i := y.ext V
 refine D2.q2 j (ft (e 0 rfl) rfl) (D2.p2 (.int .i64 c) ?_)
 obtain ⟨q, X, Y⟩ := z00 U
 have s := z0c X
 refine D2.pv (z1v j (c.toNat * 1)) (z2a el22 sz9 ov ov (z0g (RT.mono _ a f)) s.1 s.2.1) (D2.l1 (.string q) ag9 (z0i rfl (At.str (At.le (At.le (z1h f s.2.2) a a) (zAf _) i.fro))) z08 (D2.q2 v1 (ft (e 1 rfl) rfl) (D2.p2 (.int .i64 c) ?_)))
 obtain ⟨t, Z, z⟩ := z00 Y
 have u := z0c Z
 refine D2.pv (z1v v1 (c.toNat * 1)) (z2a el22 sz9 ov ov (z0g (RT.mono _ a m)) u.1 u.2.1) (D2.l1 (.string t) ag9 (z0i rfl (At.str (At.le (At.le (z1h m u.2.2) a a) (zAf _) i.fro))) z08 (D2.pv (.bool (!(sEq q t))) (znm ov ov) (.nil (.cond (b := (!(sEq q t))) rfl rfl (fun w => ?_) (fun w => ?_)))))
 rotate_left
 .have aa := z0h w z
  refine .skip (.region (W.r3 (.int .i64 (z03 .i64 (c + 1))) o (W.p2 (.int .i64 (z03 .i64 (c + 1))) (.nil ?_))))
  exact ⟨E, zAg _, ⟨z03 .i64 (c + 1), _, aa, i, a, rfl⟩⟩
 have ab := z01 w z
 refine .seq (.region (W.p1 (.bool false) (.nil (.ret ?_))))
 obtain rfl := zAa ab
 have ac := z0a (z3z I)
 obtain rfl := zAa ac
 exact z1m kr (v1 := (.bool false)) (by rfl) rt i a rfl
end Go.Am.Tryz
