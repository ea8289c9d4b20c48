/- Typed functions with the same answers as the program's, and the walks that show it. -/
import Derived.Test.YtihbgkfkfjblbaaGreatG2Zr
import Derived.Test.YtihbgkfkfjblbaaGreatG7Zr
set_option maxRecDepth 100000
set_option maxHeartbeats 8000000
set_option linter.unusedVariables false
set_option linter.unusedSimpArgs false
namespace Go.Am.Tryz
open Go Go.Am Go.Proofs
theorem zfu : Tryz.prog.underlying 52 = some (Go.TypeDesc.struct #[{ name := "Name", type := 9, offset := 0, embedded := false, tag := "", pkgPath := "", byteOffset := 0 }, { name := "Left", type := 3, offset := 1, embedded := false, tag := "", pkgPath := "", byteOffset := 16 }]) := by kernel_rfl
theorem zfv : Tryz.prog.eqGuardType Tryz.prog.depth 52 = false := by kernel_rfl
theorem zfw : Tryz.prog.stoodInHeld 52 = false := by kernel_rfl
theorem zdo : Tryz.prog.underlying 3 = some (.int .i64) := by kernel_rfl
theorem zdp : Tryz.prog.underlying 9 = some .string := by kernel_rfl
theorem zdq (p : RatingLeft) : (part 9 (List.toArray [.string p.Name, .int .i64 p.Left]) 0 : Sem Value).pureRun Tryz.prog = some (.string p.Name) := by kernel_rfl
theorem zdr (p : RatingLeft) : (part 3 (List.toArray [.string p.Name, .int .i64 p.Left]) 1 : Sem Value).pureRun Tryz.prog = some (.int .i64 p.Left) := by kernel_rfl
theorem zbi {G : GM} {cs : List Value} {p : RatingLeft} (h : z15.rep G cs p) : cs = [.string p.Name, .int .i64 p.Left] := by
  obtain ⟨_, _, rfl, rfl, rfl⟩ := h
  rfl
theorem zc0 (x y : Operand) (p q : RatingLeft) : (do eqGuard .neq 52 x y (.agg (List.toArray [.string p.Name, .int .i64 p.Left])) (.agg (List.toArray [.string q.Name, .int .i64 q.Left])); Go.binOp .neq 52 (.agg (List.toArray [.string p.Name, .int .i64 p.Left])) (.agg (List.toArray [.string q.Name, .int .i64 q.Left])) : Sem Value).pureRun Tryz.prog = some (.bool (!(sEq p.Name q.Name && (p.Left == q.Left)))) := by
  have h : Op.maxDepth = 9998 + 1 + 1 := rfl
  simp only [eqGuard, Go.binOp, Op.equal, h, z0e, z0x, Bool.not_true, Bool.false_eq_true, if_false, zli, Option.bind_some, zfv, Bool.not_false, if_true]
  rw [Op.equalIn]
  cases a : (sEq p.Name q.Name) <;> cases b : (p.Left == q.Left) <;> simp [z0e, z10 zfu, zli, zfw, z0x, a, b, zdq, zdr, ztr zdo, ztq zdp]
theorem zc1 {c e : GM} {s : List Value} {x y : Operand} {d ty yt : Nat} {pos : String} {af : Array Edge} {g : Option (Nat × Bool)} {a b : List Value} {p q : RatingLeft} (f : opnd s x = some (.agg a.toArray)) (h : opnd s y = some (.agg b.toArray)) (i : z15.rep c a p) (j : z15.rep e b q) : z2g Tryz.prog s ⟨some d, .binOp .neq 52 x y yt, ty, pos, af, g⟩ = some (.bool (!(sEq p.Name q.Name && (p.Left == q.Left)))) := by
  obtain rfl := zbi i
  obtain rfl := zbi j
  exact zts f h (by simp [closed, z1y]) (by simp [closed, z1y]) (zc0 x y p q)
def z14 (K : Nat) (h : Network) (c : List Int × List Bool × List Bool × List (List zAd) × List Int) (e : List RatingLeft × Rating_Watch) : Nat -> List zAd -> Int -> Option (Bool ⊕ (List zAd))
  | 0, _, _ => none
  | k + 1, d, a => (if (decide (a < (h.Branches.length : Int))) = true then ((idx h.Branches a).bind fun b => ((idx c.2.2.1 a).bind fun i => (Option.bind ((if i = true then ((idx c.1 a).bind fun j => some (imax 0 (z03 .i64 (b.Hold - j)))) else some (-1))) (tu1 fun l => ((idx c.2.1 a).bind fun m => (Option.bind ((if m = true then (if d.length + [b.Name].length <= 16777216 then some ((d ++ [b.Name]), 0) else none) else some (d, l))) (tu2 fun n f => ((idx e.1 a).bind fun g => (lt (!(sEq g.Name (RatingLeft.mk b.Name f).Name && (g.Left == (RatingLeft.mk b.Name f).Left))) fun o => (if o = true then some (.inl false) else z14 K h c e k n (z03 .i64 (a + 1)))))))))))) else some (.inr d))
def z0r (K : Nat) (r : Network) (i : List Int) (j : List (List zAd)) : Nat -> List Int -> List (List zAd) -> Rating_Watch -> List Int -> List Bool -> List Bool -> Int -> Int -> Option (Bool ⊕ (Rating_Watch × List Int × List Bool × List Bool))
  | 0, _, _, _, _, _, _, _, _ => none
  | k + 1, g, h, l, m, n, o, p, b => (if (decide (b < (j.length : Int))) = true then (z70 (((idx j b).bind fun e => (Option.bind (((idx i b).bind fun x => (if (decide (x > 200)) = true then ((idx i b).bind fun y => some (decide (y <= 200000))) else some false))) (tu1 fun z => (if z = true then some (.inr (g, h, l, m, n, o, p)) else ((idx i b).bind fun A => ((z1b K ({ l with used := m, above := n, over := o }) e A).bind fun c => ((z7n K e).bind fun s => (Option.bind ((if (s == 0) = true then (lt ((e.length : Int) != (r.Branches.length : Int)) fun B => some B) else some false)) (tu1 fun C => (Option.bind ((if C = true then some 3 else some s)) (tu1 fun t => (Option.bind ((if (t == 0) = true then ((idx i b).bind fun E => (if (decide (E < 1)) = true then some true else ((idx i b).bind fun F => some (decide (F > 200000))))) else some false)) (tu1 fun G => (Option.bind ((if G = true then some 12 else some t)) (tu1 fun H => (Option.bind ((if (c.2.1 != H) = true then some true else (if (c.2.1 != 0) = true then some (decide ((c.1.length : Int) > 0)) else some false))) (tu1 fun I => (if I = true then some (.inl false) else (Option.bind ((if (c.2.1 == 0) = true then (if h.length + [e].length <= 16777216 then ((idx i b).bind fun u => (if g.length + [u].length <= 16777216 then ((idx i b).bind fun J => some ((g ++ [u]), (h ++ [e]), z03 .i64 (p + J))) else none)) else none) else some (g, h, p))) (tu3 fun L M v => ((z7d K r M L).bind fun q => ((z2s K c.2.2).bind fun d => (Option.bind ((lt ((d.1.length : Int) != (r.Branches.length : Int)) fun N => (if N = true then some (d.2, d.2.used, d.2.above, d.2.over, true) else ((z3k K d.2).bind fun f => some (f.2, f.2.used, f.2.above, f.2.over, (f.1 != v)))))) (tu5 fun O P R S T => (if T = true then some (.inl false) else (z70 (z14 K r q d K [] 0) (tu1 fun U => some (.inl U)) (tu1 fun w => (Option.bind (((z1n K ({ O with used := P, above := R, over := S })).bind fun a => ((z0k K a.1 w).bind fun V => (if (!V) = true then some (a.2, a.2.used, a.2.above, a.2.over, true) else (if (c.2.1 == 0) = true then ((z0k K c.1 w).bind fun X => some (a.2, a.2.used, a.2.above, a.2.over, (!X))) else some (a.2, a.2.used, a.2.above, a.2.over, false)))))) (tu5 fun Y Z aa ab ac => (if ac = true then some (.inl false) else some (.inr (q.2.2.2.2, q.2.2.2.1, Y, Z, aa, ab, v))))))))))))))))))))))))))))))))) (tu1 fun ad => some (.inl ad)) (tu7 fun ae af ag ah ai aj ak => z0r K r i j k ae af ag ah ai aj ak (z03 .i64 (b + 1)))) else some (.inr (l, m, n, o)))
def z4d (K : Nat) (c : Network) (i : List (List zAd)) (j : List Int) : Option Bool := ((z7k K ).bind fun l => (if (!l) = true then some false else ((z5g K c).bind fun a => (optE a.1 ((z4s K c).bind fun d => (if (d != 0) = true then (Option.bind ((if (a.2 == d) = true then some true else some false)) (tu1 fun k => some k)) else (Option.bind ((if (a.2 != 0) = true then some () else some ())) (tu0 (some false))))) (fun b => ((z4s K c).bind fun e => (if (e != 0) = true then (Option.bind ((if (a.2 == e) = true then some () else some ())) (tu0 (some false))) else (Option.bind ((if (a.2 != 0) = true then some true else some false)) (tu1 fun f => (if f = true then some false else ((lsl i 0 (imin (imin (i.length : Int) (j.length : Int)) 6)).bind fun g => (z70 (z0r K c j g K [] [] b b.used b.above b.over 0 0) (tu1 fun h => some h) (tu4 fun m n o p => some true)))))))))))))
theorem zap (K : Nat) {G : GM} {H : AH} {L : List Pc} (eA : List Value) (E : Network) (jr : z07.rep G eA E) (v1 : Value) (cX : List (List zAd)) (ei : (rSl (rSl rS)).rep G [v1] cX) (aA : Value) (bT : List Int) (ab : (rSl (rI .i64)).rep G [aA] bT) (O : Ow G H (L)) (r : Bool) (h : z4d K E cX bT = some r) :
    CR Tryz.prog 3 [.agg eA.toArray, v1, aA] G H (L) (fun v q _ => v = .bool r) := by
 unfold z4d at h
 refine CR.og (n := 221) (fn := Tryz.f3) (by kernel_rfl) rfl rfl fun R kr => (.seq (.region (W.ln (Lo.box (r := z07) (x0 := E) (v := (.agg eA.toArray)) rfl rfl jr O) ?_)))
 rintro l6 l7 ⟨ak, rfl, kB, lV⟩
 refine W.p1 (.bool false) (.nil (.seq (.seq (.region ?_))))
 obtain ⟨eB, kC, js⟩ := z00 h
 refine W.ln (Lo.cQ Tryz.f4 mn kB (fun aX aq => zb5 K  aq _ kC)) ?_
 rintro lW lX ⟨l8, cY, bl, kD, rfl⟩
 refine W.pv (.bool (!eB)) (z1g (a := eB) ov) (.nil (.cond (b := (!eB)) rfl rfl (fun cZ => ?_) (fun cZ => ?_)))
 .have jt := z01 cZ js
  refine .seq (.region (W.p1 (.bool false) (.nil (.ret ?_))))
  have ju := cY.drop 0
  obtain rfl := zAa jt
  exact z1m kr (v1 := (.bool false)) (by rfl) rt ju bl rfl
 have jv := z0h cZ js
 refine .skip (.seq (.region ?_))
 obtain ⟨ej, jw, ek⟩ := (cY.atVar (j := 0) rfl)
 refine W.loadA (cs := ej) rfl rfl ag29 sz29 (z0i rfl jw) (RT.len _ ek) ?_
 obtain ⟨N, jx, c0⟩ := z00 jv
 refine W.ln (Lo.callPF (ps := []) (pw := fun w => optL N.1 (fun x => [eVar (oB w) 62 z06 (x, oV w 0, oV w 1, oV w 2), eSl (oV w 0) 3 (rI .i64) x.used, eSl (oV w 1) 4 rB x.above, eSl (oV w 2) 4 rB x.over])) rfl (fn := Tryz.f5) (by kernel_rfl) rfl (mc rfl mn) cY (fun aX aq => zef K ej E ek aq _ jx)) ?_
 rintro lY el ⟨c, em, aL, bR, kE, rfl⟩
 generalize N.1 = jy at aL c0 ⊢
 rcases jy with _ | ae
 .replace aL : Ow em el (eVar ak 29 z07 E :: L) := aL
  have jz : ((z4s K E).bind fun aB => (if (aB != 0) = true then (Option.bind ((if (N.2 == aB) = true then some true else some false)) (tu1 fun c1 => some c1)) else (Option.bind ((if (N.2 != 0) = true then some () else some ())) (tu0 (some false))))) = some r := c0
  refine W.p2 (.tuple #[(.pointer none), (.int .i64 N.2)]) (W.pv (.pointer none) (z0j ov rfl) (W.pv (.int .i64 N.2) (z0j ov rfl) (W.p1 (.pointer none) (W.p1 (.int .i64 N.2) (.nil (.seq ?_))))))
  refine .seq (.region ?_)
  obtain ⟨en, jA, eo⟩ := (aL.atVar (j := 0) rfl)
  refine W.loadA (cs := en) rfl rfl ag29 sz29 (z0i rfl jA) (RT.len _ eo) ?_
  obtain ⟨aB, jB, ep⟩ := z00 jz
  refine W.ln (Lo.cQ Tryz.f6 (mc rfl mn) aL (fun aX aq => zac K en E eo aq _ jB)) ?_
  rintro lZ l0 ⟨eq, cU, er, kF, rfl⟩
  refine W.p1 (.int .i64 aB) (.nil (.seq (.region (W.p2 (.int .i64 aB) (W.p3 (.bool (aB != 0)) (.nil ?_))))))
  refine .cond (b := (aB != 0)) rfl rfl (fun c2 => ?_) (fun c2 => ?_)
  rotate_left
  .have jC := z0h c2 ep
   refine .skip (.seq (.seq ?_))
   obtain ⟨jD, es, jE⟩ := z00 jC
   refine AW.midT (fun i T => ∃  (q : GM), () = jD /\ Ow q T (eVar ak 29 z07 E :: L) /\ GM.le eq q /\ i 49 = (.bool true)) ?_ ?_
   rotate_left
   .rintro kG l2 kH ⟨l3, rfl, jF, jG, jH⟩
    have jI := z7i jE
    refine .condT rfl jH (.seq (.region (W.p1 (.bool false) (.nil (.ret ?_)))))
    have jJ := jF.drop 0
    obtain rfl := zAa jI
    exact z1m kr (v1 := (.bool false)) (by rfl) rt jJ (zAe bl (zAe bR (zAe er jG))) rfl
   refine .region (W.p2 (.int .i64 N.2) (W.p3 (.bool (N.2 != 0)) (W.p2 (.bool (N.2 != 0)) (W.splitAt (t := 46) (b := (N.2 != 0)) rfl (fun c3 aG => ?_) (fun c3 aG => ?_)))))
   .have jK := z01 c3 es
    refine W.q6 rfl aG (W.q6 rfl aG (W.q4 (.bool true) aG rfl (.nil ?_)))
    obtain rfl := zAa jK
    exact ⟨_, rfl, cU, (zAf _), rfl⟩
   have jL := z0h c3 es
   refine W.q2 (hg := gk rfl rfl aG rfl) (.pointer none) rfl (W.pure (v := (.bool true)) (gl rfl aG) rfl (zuj (e := 62) (by kernel_rfl) ov ov) (W.q5 (.bool true) aG rfl (.nil ?_)))
   obtain rfl := zAa jL
   exact ⟨_, rfl, cU, (zAf _), rfl⟩
  have jM := z01 c2 ep
  refine .seq ?_
  obtain ⟨jN, et, jO⟩ := z00 jM
  refine AW.midT (fun i T => ∃ (z : Bool) (q : GM), z = jN /\ Ow q T (eVar ak 29 z07 E :: L) /\ GM.le eq q /\ i 6 = .bool z) ?_ ?_
  rotate_left
  .rintro kI l4 kJ ⟨c1, l5, rfl, jP, jQ, jR⟩
   have jS := z0a jO
   refine .ret ?_
   have jT := jP.drop 0
   obtain rfl := zAa jS
   exact z1m kr (v1 := (.bool c1)) (by rfl) (zhn (by rfl) (by exact jR)) jT (zAe bl (zAe bR (zAe er jQ))) rfl
  refine .region (W.p2 (.int .i64 N.2) (W.p2 (.int .i64 aB) (W.p3 (.bool (N.2 == aB)) (W.p2 (.bool (N.2 == aB)) (W.splitAt (t := 40) (b := (N.2 == aB)) rfl (fun c4 aH => ?_) (fun c4 aH => ?_))))))
  rotate_left
  .have jU := z0h c4 et
   refine W.q6 rfl aH (W.q6 rfl aH (W.q5 (.bool false) aH rfl (W.p1 (.bool false) (.nil ?_))))
   obtain rfl := zAa jU
   exact ⟨false, _, rfl, cU, (zAf _), rfl⟩
  have jV := z01 c4 et
  refine W.q2 (hg := gk rfl rfl aH rfl) (.pointer none) rfl (W.pure (v := (.bool true)) (gl rfl aH) rfl (zuj (e := 62) (by kernel_rfl) ov ov) (W.q4 (.bool true) aH rfl (W.p1 (.bool true) (.nil ?_))))
  obtain rfl := zAa jV
  exact ⟨true, _, rfl, cU, (zAf _), rfl⟩
 replace aL : Ow em el (eVar (oB c) 62 z06 (ae, (oV c 0), (oV c 1), (oV c 2)) :: eSl (oV c 0) 3 (rI .i64) ae.used :: eSl (oV c 1) 4 rB ae.above :: eSl (oV c 2) 4 rB ae.over :: eVar ak 29 z07 E :: L) := aL
 have jW : ((z4s K E).bind fun aC => (if (aC != 0) = true then (Option.bind ((if (N.2 == aC) = true then some () else some ())) (tu0 (some false))) else (Option.bind ((if (N.2 != 0) = true then some true else some false)) (tu1 fun bU => (if bU = true then some false else ((lsl cX 0 (imin (imin (cX.length : Int) (bT.length : Int)) 6)).bind fun aN => (z70 (z0r K E bT aN K [] [] ae ae.used ae.above ae.over 0 0) (tu1 fun eC => some eC) (tu4 fun eD eE eF eG => some true)))))))) = some r := c0
 refine W.p2 (.tuple #[(.pointer (some ⟨(oB c), 0, none⟩)), (.int .i64 N.2)]) (W.pv (.pointer (some ⟨(oB c), 0, none⟩)) (z0j ov rfl) (W.pv (.int .i64 N.2) (z0j ov rfl) (W.p1 (.pointer (some ⟨(oB c), 0, none⟩)) (W.p1 (.int .i64 N.2) (.nil (.seq ?_))))))
 refine .seq (.region ?_)
 obtain ⟨eu, jX, ev⟩ := (aL.atVar (j := 4) rfl)
 refine W.loadA (cs := eu) rfl rfl ag29 sz29 (z0i rfl jX) (RT.len _ ev) ?_
 obtain ⟨aC, jY, ew⟩ := z00 jW
 refine W.ln (Lo.cQ Tryz.f6 (mc rfl mn) aL (fun aX aq => zac K eu E ev aq _ jY)) ?_
 rintro kK kL ⟨ex, cV, c5, j1, rfl⟩
 refine W.p1 (.int .i64 aC) (.nil (.seq (.region (W.p2 (.int .i64 aC) (W.p3 (.bool (aC != 0)) (.nil ?_))))))
 refine .cond (b := (aC != 0)) rfl rfl (fun bV => ?_) (fun bV => ?_)
 .have eH := z01 bV ew
  refine .seq ?_
  obtain ⟨eI, c6, eJ⟩ := z00 eH
  refine AW.midT (fun i T => ∃  (q : GM), () = eI /\ Ow q T (eVar (oB c) 62 z06 (ae, (oV c 0), (oV c 1), (oV c 2)) :: eSl (oV c 0) 3 (rI .i64) ae.used :: eSl (oV c 1) 4 rB ae.above :: eSl (oV c 2) 4 rB ae.over :: eVar ak 29 z07 E :: L) /\ GM.le ex q /\ i 6 = (.bool false)) ?_ ?_
  rotate_left
  .rintro j2 kM j3 ⟨kN, rfl, eK, eL, eM⟩
   have eN := z7i eJ
   refine .ret ?_
   have eO := ((((eK.drop 0).drop 0).drop 0).drop 0).drop 0
   obtain rfl := zAa eN
   exact z1m kr (v1 := (.bool false)) (by rfl) (zhn (by rfl) (by exact eM)) eO (zAe bl (zAe bR (zAe c5 eL))) rfl
  refine .region (W.p2 (.int .i64 N.2) (W.p2 (.int .i64 aC) (W.p3 (.bool (N.2 == aC)) (W.p2 (.bool (N.2 == aC)) (W.splitAt (t := 40) (b := (N.2 == aC)) rfl (fun bW ax => ?_) (fun bW ax => ?_))))))
  rotate_left
  .have eP := z0h bW c6
   refine W.q6 rfl ax (W.q6 rfl ax (W.q5 (.bool false) ax rfl (W.p1 (.bool false) (.nil ?_))))
   obtain rfl := zAa eP
   exact ⟨_, rfl, cV, (zAf _), rfl⟩
  have eQ := z01 bW c6
  refine W.q2 (hg := gk rfl rfl ax rfl) (.pointer (some ⟨(oB c), 0, none⟩)) rfl (W.pure (v := (.bool false)) (gl rfl ax) rfl (zui (e := 62) (by kernel_rfl) ov ov) (W.q4 (.bool false) ax rfl (W.p1 (.bool false) (.nil ?_))))
  obtain rfl := zAa eQ
  exact ⟨_, rfl, cV, (zAf _), rfl⟩
 have eR := z0h bV ew
 refine .skip (.seq (.seq ?_))
 obtain ⟨eS, c7, eT⟩ := z00 eR
 refine AW.midT (fun i T => ∃ (z : Bool) (q : GM), z = eS /\ Ow q T (eVar (oB c) 62 z06 (ae, (oV c 0), (oV c 1), (oV c 2)) :: eSl (oV c 0) 3 (rI .i64) ae.used :: eSl (oV c 1) 4 rB ae.above :: eSl (oV c 2) 4 rB ae.over :: eVar ak 29 z07 E :: L) /\ GM.le ex q /\ i 49 = .bool z) ?_ ?_
 .refine .region (W.p2 (.int .i64 N.2) (W.p3 (.bool (N.2 != 0)) (W.p2 (.bool (N.2 != 0)) (W.splitAt (t := 46) (b := (N.2 != 0)) rfl (fun bX ay => ?_) (fun bX ay => ?_)))))
  .have eU := z01 bX c7
   refine W.q6 rfl ay (W.q6 rfl ay (W.q4 (.bool true) ay rfl (.nil ?_)))
   obtain rfl := zAa eU
   exact ⟨true, _, rfl, cV, (zAf _), rfl⟩
  have eV := z0h bX c7
  refine W.q2 (hg := gk rfl rfl ay rfl) (.pointer (some ⟨(oB c), 0, none⟩)) rfl (W.pure (v := (.bool false)) (gl rfl ay) rfl (zui (e := 62) (by kernel_rfl) ov ov) (W.q5 (.bool false) ay rfl (.nil ?_)))
  obtain rfl := zAa eV
  exact ⟨false, _, rfl, cV, (zAf _), rfl⟩
 rintro j4 kO C ⟨bU, c8, rfl, c9, da, eW⟩
 have bS := zAe bl (zAe bR (zAe c5 da))
 have db := z0a eT
 refine .cond (b := bU) rfl eW (fun bY => ?_) (fun bY => ?_)
 .have eX := z01 bY db
  refine .seq (.region (W.p1 (.bool false) (.nil (.ret ?_))))
  have eY := ((((c9.drop 0).drop 0).drop 0).drop 0).drop 0
  obtain rfl := zAa eX
  exact z1m kr (v1 := (.bool false)) (by rfl) rt eY bS rfl
 have eZ := z0h bY db
 refine .skip (.seq (.region (W.p1 (.slice none 0 0) (.nil (.seq (.region ?_))))))
 refine W.p1 (.slice none 0 0) (.nil (.seq (.region (W.p1 (.int .i64 0) (.nil (.seq ?_))))))
 refine .seq (.region (W.q2 v1 (ft (C 1 rfl) rfl) (W.q2 v1 (ft (C 1 rfl) rfl) (W.pv (.int .i64 (cX.length : Int)) (z0q ov (z0g (RT.mono _ bS ei)) (z05 el30)) (W.q2 aA (ft (C 2 rfl) rfl) (W.pv (.int .i64 (bT.length : Int)) (z0q ov (z0g (RT.mono _ bS ab)) (z05 el31)) ?_))))))
 refine W.pv (.int .i64 (imin (imin (cX.length : Int) (bT.length : Int)) 6)) (ztk ov ov ov) ?_
 obtain ⟨aN, e0, e1⟩ := z00 eZ
 obtain ⟨dc, e2, bZ⟩ := zrr (P := Tryz.prog) (R := (rSl rS)) (RT.mono _ bS ei) el30 sz39 e0
 refine W.pv dc (e2 ov ov) (W.pv (.int .i64 (aN.length : Int)) (z0q ov (z0g bZ) (z05 el30)) (W.p2 (.int .i64 0) (.nil ?_)))
 obtain ⟨dd, e3, aY⟩ := z1w e1
 refine AW.midT (fun i T => ∃ (z : Rating_Watch) (ar : List Int) (aD : List Bool) (aM : List Bool) (q : GM), (.inr (z, ar, aD, aM)) = dd /\ Ow q T (eVar (oB c) 62 z06 (z, (oV c 0), (oV c 1), (oV c 2)) :: eSl (oV c 0) 3 (rI .i64) ar :: eSl (oV c 1) 4 rB aD :: eSl (oV c 2) 4 rB aM :: eVar ak 29 z07 E :: L) /\ GM.le c8 q) ?_ ?_
 rotate_left
 .rintro j5 kP j6 ⟨eD, eE, eF, eG, kQ, rfl, e4, e5⟩
  have e6 := zrn (z72 aY)
  refine .seq (.region (W.p1 (.bool true) (.nil (.ret ?_))))
  have e7 := ((((e4.drop 0).drop 0).drop 0).drop 0).drop 0
  obtain rfl := zAa e6
  exact z1m kr (v1 := (.bool true)) (by rfl) rt e7 (zAe bl (zAe bR (zAe c5 (zAe da e5)))) rfl
 refine .block ?_
 have e8 := c9.nilSl 39 (rSl rS)
 have e9 := e8.nilSl 3 (rI .i64)
 refine AW.loop (α := Nat) (fun b0 i T => ∃ (z : List Int) (ar : List (List zAd)) (aD : Rating_Watch) (aM : List Int) (aZ : List Bool) (de : List Bool) (df : Int) (jZ : Int) (q : GM), z0r K E bT aN b0 z ar aD aM aZ de df jZ = some dd /\ Ow q T (eSl (i 11) 3 (rI .i64) z :: eSl (i 10) 39 (rSl rS) ar :: eVar (oB c) 62 z06 (aD, (oV c 0), (oV c 1), (oV c 2)) :: eSl (oV c 0) 3 (rI .i64) aM :: eSl (oV c 1) 4 rB aZ :: eSl (oV c 2) 4 rB de :: eVar ak 29 z07 E :: L) /\ GM.le c8 q /\ i 12 = .int .i64 df /\ i 58 = .int .i64 jZ) (fun b0 => b0) K ⟨[], [], ae, ae.used, ae.above, ae.over, 0, 0, _, e3, e9, (zAf _), rfl, rfl⟩ ?_
 rintro b1
 rintro y kR F ⟨am, an, bm, bn, bo, bp, a0, I, dg, bq, aO, aP, b2, br⟩
 have a1 := zAe bS aP
 rcases b1 with _ | b1
 .exact z09 bq
 rw [z0r] at bq
 refine .seq (.region (W.q3 (.bool (decide (I < (aN.length : Int)))) br (ft (F 57 rfl) rfl) (.nil (.seq (.cond (b := decide (I < (aN.length : Int))) rfl rfl (fun b3 => ?_) (fun b3 => ?_))))))
 rotate_left
 .have fa := z0h b3 bq
  refine .exit ?_
  have fb := (aO.drop 0).drop 0
  obtain rfl := zAa fa
  exact ⟨bm, bn, bo, bp, _, rfl, fb, aP⟩
 have fc := z01 b3 bq
 refine .skip (.seq ?_)
 obtain ⟨fd, fe, a2⟩ := z1w fc
 refine AW.midT (fun i T => ∃ (z : List Int) (ar : List (List zAd)) (aD : Rating_Watch) (aM : List Int) (aZ : List Bool) (de : List Bool) (df : Int) (q : GM), (.inr (z, ar, aD, aM, aZ, de, df)) = fd /\ Ow q T (eSl (i 11) 3 (rI .i64) z :: eSl (i 10) 39 (rSl rS) ar :: eVar (oB c) 62 z06 (aD, (oV c 0), (oV c 1), (oV c 2)) :: eSl (oV c 0) 3 (rI .i64) aM :: eSl (oV c 1) 4 rB aZ :: eSl (oV c 2) 4 rB de :: eVar ak 29 z07 E :: L) /\ GM.le dg q /\ i 12 = .int .i64 df) ?_ ?_
 rotate_left
 .rintro j7 kS eg ⟨ff, fg, fh, fi, fj, fk, fl, kT, rfl, fm, fo, fp⟩
  have fq := zro (z72 a2)
  refine .region (W.q3 (.int .i64 (z03 .i64 (I + 1))) (ft (eg 58 rfl) br) rfl (W.p2 (.int .i64 (z03 .i64 (I + 1))) (.nil ?_)))
  exact ⟨b1, zAg _, ⟨ff, fg, fh, fi, fj, fk, fl, z03 .i64 (I + 1), _, fq, fm, (zAe aP fo), fp, rfl⟩⟩
 refine .block (.seq (.region (W.q2 _ br ?_)))
 obtain ⟨av, fr, fs⟩ := z00 fe
 have b4 := z0c fr
 refine W.pv (z1v dc (I.toNat * 1)) (z2a el30 sz39 (ou (ft (F 56 rfl) rfl)) (ou br) (z0g (RT.mono _ aP bZ)) b4.1 b4.2.1) ?_
 obtain ⟨az, b5, bs⟩ := At.sl (At.le (z1h bZ b4.2.2) aP aP)
 replace b5 := PtG.le b5 aO.fro
 refine W.l1 az ag39 (z0i rfl b5) (W.p1 (.int .i64 I) (W.p1 az (.nil (.seq (.seq ?_)))))
 obtain ⟨fu, fv, fw⟩ := z00 fs
 refine AW.midT (fun i T => ∃ (z : Bool) (q : GM), z = fu /\ Ow q T (eSl (y 11) 3 (rI .i64) am :: eSl (y 10) 39 (rSl rS) an :: eVar (oB c) 62 z06 (bm, (oV c 0), (oV c 1), (oV c 2)) :: eSl (oV c 0) 3 (rI .i64) bn :: eSl (oV c 1) 4 rB bo :: eSl (oV c 2) 4 rB bp :: eVar ak 29 z07 E :: L) /\ GM.le dg q /\ i 74 = .bool z) ?_ ?_
 .refine .region (W.q2 aA (ft (F 2 rfl) (ft (C 2 rfl) rfl)) (W.p2 (.int .i64 I) ?_))
  obtain ⟨bt, fx, dh⟩ := z00 fv
  have b6 := z0c fx
  refine W.pv (z1v aA (I.toNat * 1)) (z2a el31 sz3 ov ov (z0g (RT.mono _ a1 ab)) b6.1 b6.2.1) (W.l1 (.int .i64 bt) ag3 (z0i rfl (At.int (At.le (At.le (z1h ab b6.2.2) a1 a1) (zAf _) aO.fro))) (W.p3 (.bool (decide (bt > 200))) (W.p2 (.bool (decide (bt > 200))) (W.splitAt (t := 68) (b := decide (bt > 200)) rfl (fun b7 V => ?_) (fun b7 V => ?_)))))
  rotate_left
  .have fy := z0h b7 dh
   refine W.q6 rfl V (W.q6 rfl V (W.q6 rfl V (W.q6 rfl V (W.q6 rfl V (W.q5 (.bool false) V rfl (.nil ?_))))))
   obtain rfl := zAa fy
   exact ⟨false, _, rfl, aO, (zAf _), rfl⟩
  have fz := z01 b7 dh
  refine W.q2 (hg := gk rfl rfl V rfl) aA (ft (F 2 rfl) (ft (C 2 rfl) rfl)) (W.q2 (hg := gk rfl rfl V rfl) (.int .i64 I) rfl ?_)
  obtain ⟨bu, fA, fB⟩ := z00 fz
  have b8 := z0c fA
  refine W.pure (v := (z1v aA (I.toNat * 1))) (gl rfl V) rfl (z2a el31 sz3 ov ov (z0g (RT.mono _ a1 ab)) b8.1 b8.2.1) (W.load1 (v := (.int .i64 bu)) (r := []) (gl rfl V) rfl ag3 (z0i rfl (At.int (At.le (At.le (z1h ab b8.2.2) a1 a1) (zAf _) aO.fro))) (W.q3 (hg := gk rfl rfl V rfl) (.bool (decide (bu <= 200000))) rfl rfl (W.q4 (.bool (decide (bu <= 200000))) V rfl (.nil ?_))))
  obtain rfl := zAa fB
  exact ⟨decide (bu <= 200000), _, rfl, aO, (zAf _), rfl⟩
 rintro j8 kU f ⟨fC, kV, rfl, b9, aQ, fD⟩
 have cW := zAe a1 aQ
 have di := z0a fw
 refine .cond (b := fC) rfl fD (fun ca => ?_) (fun ca => ?_)
 .have fE := z01 ca di
  refine .exit ?_
  obtain rfl := zAa fE
  exact ⟨am, an, bm, bn, bo, bp, a0, _, rfl, (Ow.reval (j := 1) (Ow.reval (j := 0) b9 rfl (ft (f 11 rfl) rfl)) rfl (ft (f 10 rfl) rfl)), aQ, (ft (f 12 rfl) b2)⟩
 have fF := z0h ca di
 refine .skip (.seq (.region (W.q2 (.pointer (some ⟨(oB c), 0, none⟩)) (ft (f 7 rfl) (ft (F 7 rfl) (ft (C 7 rfl) rfl))) (W.q2 az (ft (f 14 rfl) rfl) (W.q2 aA (ft (f 2 rfl) (ft (F 2 rfl) (ft (C 2 rfl) rfl))) (W.q2 (.int .i64 I) (ft (f 13 rfl) rfl) ?_))))))
 obtain ⟨dj, fG, fH⟩ := z00 fF
 have cb := z0c fG
 refine W.pv (z1v aA (I.toNat * 1)) (z2a el31 sz3 ov ov (z0g (RT.mono _ cW ab)) cb.1 cb.2.1) (W.l1 (.int .i64 dj) ag3 (z0i rfl (At.int (At.le (At.le (z1h ab cb.2.2) cW cW) (zAf _) b9.fro))) ?_)
 have fI := ((((((b9.front (j := 6) rfl).front (j := 2) rfl).front (j := 2) rfl).front (j := 6) rfl).front (j := 6) rfl).front (j := 6) rfl).front (j := 6) rfl
 obtain ⟨d, fJ, fK⟩ := z00 fH
 refine W.ln (Lo.qF Tryz.f7 (ps := [_, _, _, _]) (pw := fun w => [_, _, _, _, _]) (mc rfl (mc rfl (mc rfl mn))) fI (fun aX aq => z9j K (oB c) (oV c 0) (oV c 1) (oV c 2) ({ bm with used := bn, above := bo, over := bp }) az av (RT.mono _ aQ bs) dj aq _ fJ)) ?_
 rintro kW kX ⟨J, kY, fL, bv, j9, rfl⟩
 refine W.p2 (.tuple #[J, (.int .i64 d.2.1)]) (W.pv J (z0j ov rfl) (W.pv (.int .i64 d.2.1) (z0j ov rfl) (W.p1 J (W.p1 (.int .i64 d.2.1) (.nil (.seq ?_))))))
 refine .region (W.q2 az (ft (f 14 rfl) rfl) ?_)
 obtain ⟨aR, fM, fN⟩ := z00 fK
 refine W.ln (Lo.cQ Tryz.f8 (mc rfl mn) fL (fun aX aq => zej K az av (RT.mono _ (zAe aQ bv) bs) aq _ fM)) ?_
 rintro kZ k0 ⟨fO, bw, cc, ka, rfl⟩
 refine W.p1 (.int .i64 aR) (.nil (.seq (.seq ?_)))
 obtain ⟨fP, dk, fQ⟩ := z00 fN
 refine AW.midT (fun i T => ∃ (z : Bool) (q : GM), z = fP /\ Ow q T (eSl J 9 rS d.1 :: eVar (oB c) 62 z06 (d.2.2, (oV c 0), (oV c 1), (oV c 2)) :: eSl (oV c 0) 3 (rI .i64) d.2.2.used :: eSl (oV c 1) 4 rB d.2.2.above :: eSl (oV c 2) 4 rB d.2.2.over :: eSl (y 11) 3 (rI .i64) am :: eSl (y 10) 39 (rSl rS) an :: eVar ak 29 z07 E :: L) /\ GM.le fO q /\ i 96 = .bool z) ?_ ?_
 .refine .region (W.p2 (.int .i64 aR) (W.p3 (.bool (aR == 0)) (W.p2 (.bool (aR == 0)) (W.splitAt (t := 89) (b := (aR == 0)) rfl (fun cd U => ?_) (fun cd U => ?_)))))
  rotate_left
  .have fR := z0h cd dk
   refine W.q6 rfl U (W.q6 rfl U (W.q6 rfl U (W.q6 rfl U (W.q6 rfl U (W.q6 rfl U (W.q5 (.bool false) U rfl ?_))))))
   refine .nil ?_
   obtain rfl := zAa fR
   exact ⟨false, _, rfl, bw, (zAf _), rfl⟩
  have fS := z01 cd dk
  refine W.q2 (hg := gk rfl rfl U rfl) az (ft (f 14 rfl) rfl) (W.pure (v := (.int .i64 (av.length : Int))) (gl rfl U) rfl (z0q ov (z0g (RT.mono _ (zAe aQ (zAe bv cc)) bs)) (z05 el39)) (W.pure (v := (padd (.pointer (some ⟨ak, 0, none⟩)) 2)) (gl rfl U) rfl (z0f zd8 (ou (ft (f 3 rfl) (ft (F 3 rfl) (ft (C 3 rfl) rfl)))) (bw.atVar (j := 7) rfl)) ?_))
  obtain ⟨fT, fU, fV⟩ := At.sl (At.proj (bw.atVar (j := 7) rfl) z0z)
  refine W.load1 (v := fT) (r := []) (gl rfl U) rfl ag24 (z0i rfl fU) (W.pure (v := (.int .i64 (E.Branches.length : Int))) (gl rfl U) rfl (z0q ov (z0g fV) (z05 el24)) (W.q3 (hg := gk rfl rfl U rfl) (.bool ((av.length : Int) != (E.Branches.length : Int))) rfl rfl ?_))
  obtain ⟨dl, fW, fX⟩ := z71 fS
  refine W.q4 (.bool dl) U (congrArg (Value.bool) fW) (.nil ?_)
  obtain rfl := zAa fX
  exact ⟨dl, _, rfl, bw, (zAf _), rfl⟩
 rintro kb k2 g ⟨fY, fZ, rfl, dm, dn, f0⟩
 have f1 := z0a fQ
 obtain ⟨f2, dp, ga⟩ := z00 f1
 refine AW.midT (fun i T => ∃ (z : Int) (q : GM), z = f2 /\ Ow q T (eSl J 9 rS d.1 :: eVar (oB c) 62 z06 (d.2.2, (oV c 0), (oV c 1), (oV c 2)) :: eSl (oV c 0) 3 (rI .i64) d.2.2.used :: eSl (oV c 1) 4 rB d.2.2.above :: eSl (oV c 2) 4 rB d.2.2.over :: eSl (y 11) 3 (rI .i64) am :: eSl (y 10) 39 (rSl rS) an :: eVar ak 29 z07 E :: L) /\ GM.le fZ q /\ i 17 = .int .i64 z) ?_ ?_
 .refine .cond (b := fY) rfl f0 (fun ce => ?_) (fun ce => ?_)
  rotate_left
  .have gb := z0h ce dp
   refine .skip ?_
   obtain rfl := zAa gb
   exact ⟨aR, _, rfl, dm, (zAf _), (ft (g 17 rfl) rfl)⟩
  have gc := z01 ce dp
  refine .region (W.p1 (.int .i64 3) (.nil ?_))
  obtain rfl := zAa gc
  exact ⟨3, _, rfl, dm, (zAf _), rfl⟩
 rintro kc k3 l ⟨bx, gd, rfl, a3, dq, dr⟩
 have a4 := zAe cW (zAe bv (zAe cc (zAe dn dq)))
 have ge := z0a ga
 refine .seq (.seq ?_)
 obtain ⟨gf, ds, gg⟩ := z00 ge
 refine AW.midT (fun i T => ∃ (z : Bool) (q : GM), z = gf /\ Ow q T (eSl J 9 rS d.1 :: eVar (oB c) 62 z06 (d.2.2, (oV c 0), (oV c 1), (oV c 2)) :: eSl (oV c 0) 3 (rI .i64) d.2.2.used :: eSl (oV c 1) 4 rB d.2.2.above :: eSl (oV c 2) 4 rB d.2.2.over :: eSl (y 11) 3 (rI .i64) am :: eSl (y 10) 39 (rSl rS) an :: eVar ak 29 z07 E :: L) /\ GM.le gd q /\ i 112 = .bool z) ?_ ?_
 .refine .region (W.q2 _ dr (W.p3 (.bool (bx == 0)) (W.p2 (.bool (bx == 0)) (W.splitAt (t := 99) (b := (bx == 0)) rfl (fun cf B => ?_) (fun cf B => ?_)))))
  rotate_left
  .have gh := z0h cf ds
   refine W.q6 rfl B (W.q6 rfl B (W.q6 rfl B (W.q6 rfl B (W.q6 rfl B (W.q6 rfl B (W.skipU rfl rfl rfl rfl ?_))))))
   refine W.skipU rfl rfl rfl rfl (W.skipU rfl rfl rfl rfl (W.skipU rfl rfl rfl rfl (W.skipU rfl rfl rfl rfl (W.q6 rfl B (W.q5 (.bool false) B rfl (.nil ?_))))))
   obtain rfl := zAa gh
   exact ⟨false, _, rfl, a3, (zAf _), rfl⟩
  have gi := z01 cf ds
  refine W.q2 (hg := gk rfl rfl B rfl) aA (ft (l 2 rfl) (ft (g 2 rfl) (ft (f 2 rfl) (ft (F 2 rfl) (ft (C 2 rfl) rfl))))) (W.q2 (hg := gk rfl rfl B rfl) (.int .i64 I) (ft (l 13 rfl) (ft (g 13 rfl) (ft (f 13 rfl) rfl))) ?_)
  obtain ⟨bz, gj, dt⟩ := z00 gi
  have cg := z0c gj
  refine W.pure (v := (z1v aA (I.toNat * 1))) (gl rfl B) rfl (z2a el31 sz3 ov ov (z0g (RT.mono _ a4 ab)) cg.1 cg.2.1) (W.load1 (v := (.int .i64 bz)) (r := []) (gl rfl B) rfl ag3 (z0i rfl (At.int (At.le (At.le (z1h ab cg.2.2) a4 a4) (zAf _) a3.fro))) (W.q3 (hg := gk rfl rfl B rfl) (.bool (decide (bz < 1))) rfl rfl (W.q2 (hg := gk rfl rfl B rfl) (.bool (decide (bz < 1))) rfl (W.splitAt (t := 105) (b := decide (bz < 1)) rfl (fun ch X => ?_) (fun ch X => ?_)))))
  .have gm := z01 ch dt
   refine W.q6 rfl X (W.q6 rfl X (W.q6 rfl X (W.q6 rfl X (W.q6 rfl X (W.q4 (hg := gk rfl rfl B rfl) (.bool true) X rfl (W.q4 (.bool true) B rfl ?_))))))
   refine .nil ?_
   obtain rfl := zAa gm
   exact ⟨true, _, rfl, a3, (zAf _), rfl⟩
  have gn := z0h ch dt
  refine W.q2 (hg := gk rfl rfl X rfl) aA (ft (l 2 rfl) (ft (g 2 rfl) (ft (f 2 rfl) (ft (F 2 rfl) (ft (C 2 rfl) rfl))))) (W.q2 (hg := gk rfl rfl X rfl) (.int .i64 I) (ft (l 13 rfl) (ft (g 13 rfl) (ft (f 13 rfl) rfl))) ?_)
  obtain ⟨a5, go, gp⟩ := z00 gn
  have ci := z0c go
  refine W.pure (v := (z1v aA (I.toNat * 1))) (gl rfl X) rfl (z2a el31 sz3 ov ov (z0g (RT.mono _ a4 ab)) ci.1 ci.2.1) (W.load1 (v := (.int .i64 a5)) (r := []) (gl rfl X) rfl ag3 (z0i rfl (At.int (At.le (At.le (z1h ab ci.2.2) a4 a4) (zAf _) a3.fro))) (W.q3 (hg := gk rfl rfl X rfl) (.bool (decide (a5 > 200000))) rfl rfl (W.q5 (hg := gk rfl rfl B rfl) (.bool (decide (a5 > 200000))) X rfl (W.q4 (.bool (decide (a5 > 200000))) B rfl (.nil ?_)))))
  obtain rfl := zAa gp
  exact ⟨decide (a5 > 200000), _, rfl, a3, (zAf _), rfl⟩
 rintro kd k4 p ⟨gq, gr, rfl, du, dv, gs⟩
 have gt := z0a gg
 obtain ⟨gu, dw, gv⟩ := z00 gt
 refine AW.midT (fun i T => ∃ (z : Int) (q : GM), z = gu /\ Ow q T (eSl J 9 rS d.1 :: eVar (oB c) 62 z06 (d.2.2, (oV c 0), (oV c 1), (oV c 2)) :: eSl (oV c 0) 3 (rI .i64) d.2.2.used :: eSl (oV c 1) 4 rB d.2.2.above :: eSl (oV c 2) 4 rB d.2.2.over :: eSl (y 11) 3 (rI .i64) am :: eSl (y 10) 39 (rSl rS) an :: eVar ak 29 z07 E :: L) /\ GM.le gr q /\ i 17 = .int .i64 z) ?_ ?_
 .refine .cond (b := gq) rfl gs (fun cj => ?_) (fun cj => ?_)
  rotate_left
  .have gw := z0h cj dw
   refine .skip ?_
   obtain rfl := zAa gw
   exact ⟨bx, _, rfl, du, (zAf _), (ft (p 17 rfl) dr)⟩
  have gx := z01 cj dw
  refine .region (W.p1 (.int .i64 12) (.nil ?_))
  obtain rfl := zAa gx
  exact ⟨12, _, rfl, du, (zAf _), rfl⟩
 rintro ke k5 u ⟨ck, gy, rfl, bA, dx, gz⟩
 have gA := z0a gv
 refine .seq (.seq ?_)
 obtain ⟨gB, dy, gC⟩ := z00 gA
 refine AW.midT (fun i T => ∃ (z : Bool) (q : GM), z = gB /\ Ow q T (eSl J 9 rS d.1 :: eVar (oB c) 62 z06 (d.2.2, (oV c 0), (oV c 1), (oV c 2)) :: eSl (oV c 0) 3 (rI .i64) d.2.2.used :: eSl (oV c 1) 4 rB d.2.2.above :: eSl (oV c 2) 4 rB d.2.2.over :: eSl (y 11) 3 (rI .i64) am :: eSl (y 10) 39 (rSl rS) an :: eVar ak 29 z07 E :: L) /\ GM.le gy q /\ i 124 = .bool z) ?_ ?_
 .refine .region (W.q2 (.int .i64 d.2.1) (ft (u 16 rfl) (ft (p 16 rfl) (ft (l 16 rfl) (ft (g 16 rfl) rfl)))) (W.q2 _ gz (W.p3 (.bool (d.2.1 != ck)) (W.p2 (.bool (d.2.1 != ck)) (W.splitAt (t := 116) (b := (d.2.1 != ck)) rfl (fun cl Y => ?_) (fun cl Y => ?_))))))
  .have gD := z01 cl dy
   refine W.q6 rfl Y (W.q6 rfl Y (W.q6 rfl Y (W.skipU rfl rfl rfl rfl (W.skipU rfl rfl rfl rfl (W.skipU rfl rfl rfl rfl (W.q6 rfl Y ?_))))))
   refine W.q4 (.bool true) Y rfl (.nil ?_)
   obtain rfl := zAa gD
   exact ⟨true, _, rfl, bA, (zAf _), rfl⟩
  have dz := z0h cl dy
  refine W.q2 (hg := gk rfl rfl Y rfl) (.int .i64 d.2.1) (ft (u 16 rfl) (ft (p 16 rfl) (ft (l 16 rfl) (ft (g 16 rfl) rfl)))) (W.q3 (hg := gk rfl rfl Y rfl) (.bool (d.2.1 != 0)) rfl rfl (W.q2 (hg := gk rfl rfl Y rfl) (.bool (d.2.1 != 0)) rfl (W.splitAt (t := 119) (b := (d.2.1 != 0)) rfl (fun cm ao => ?_) (fun cm ao => ?_))))
  rotate_left
  .have gE := z0h cm dz
   refine W.q6 rfl ao (W.q6 rfl ao (W.q6 rfl ao (W.q5 (hg := gk rfl rfl Y rfl) (.bool false) ao rfl (W.q5 (.bool false) Y rfl (.nil ?_)))))
   obtain rfl := zAa gE
   exact ⟨false, _, rfl, bA, (zAf _), rfl⟩
  have gF := z01 cm dz
  refine W.q2 (hg := gk rfl rfl ao rfl) J (ft (u 15 rfl) (ft (p 15 rfl) (ft (l 15 rfl) (ft (g 15 rfl) rfl)))) (W.pure (v := (.int .i64 (d.1.length : Int))) (gl rfl ao) rfl (z0q ov (bA.slLen (j := 0) rfl) (z05 el22)) (W.q3 (hg := gk rfl rfl ao rfl) (.bool (decide ((d.1.length : Int) > 0))) rfl rfl (W.q4 (hg := gk rfl rfl Y rfl) (.bool (decide ((d.1.length : Int) > 0))) ao rfl (W.q5 (.bool (decide ((d.1.length : Int) > 0))) Y rfl (.nil ?_)))))
  obtain rfl := zAa gF
  exact ⟨decide ((d.1.length : Int) > 0), _, rfl, bA, (zAf _), rfl⟩
 rintro kf k6 A ⟨gG, bB, rfl, cn, dA, gH⟩
 have ey := zAe aQ (zAe bv (zAe cc (zAe dn (zAe dq (zAe dv (zAe dx dA))))))
 have af := zAe a4 (zAe dv (zAe dx dA))
 have dB := z0a gC
 refine .cond (b := gG) rfl gH (fun co => ?_) (fun co => ?_)
 .have gI := z01 co dB
  refine .seq (.region (W.p1 (.bool false) (.nil (.ret ?_))))
  have gJ := (((((((cn.drop 0).drop 0).drop 0).drop 0).drop 0).drop 0).drop 0).drop 0
  obtain rfl := zAa gI
  have gK := z0a (z3z a2)
  obtain rfl := zAa gK
  have gL := z0a (z3z aY)
  obtain rfl := zAa gL
  exact z1m kr (v1 := (.bool false)) (by rfl) rt gJ af rfl
 have gM := z0h co dB
 refine .skip (.seq (.seq (.region (W.q2 (.int .i64 d.2.1) (ft (A 16 rfl) (ft (u 16 rfl) (ft (p 16 rfl) (ft (l 16 rfl) (ft (g 16 rfl) rfl))))) (W.p3 (.bool (d.2.1 == 0)) (.nil ?_))))))
 obtain ⟨gN, dC, gO⟩ := z00 gM
 refine AW.midT (fun i T => ∃ (z : List Int) (ar : List (List zAd)) (aD : Int) (q : GM), (z, ar, aD) = gN /\ Ow q T (eSl J 9 rS d.1 :: eVar (oB c) 62 z06 (d.2.2, (oV c 0), (oV c 1), (oV c 2)) :: eSl (oV c 0) 3 (rI .i64) d.2.2.used :: eSl (oV c 1) 4 rB d.2.2.above :: eSl (oV c 2) 4 rB d.2.2.over :: eSl (i 11) 3 (rI .i64) z :: eSl (i 10) 39 (rSl rS) ar :: eVar ak 29 z07 E :: L) /\ GM.le bB q /\ i 12 = .int .i64 aD) ?_ ?_
 .refine .cond (b := (d.2.1 == 0)) rfl rfl (fun cp => ?_) (fun cp => ?_)
  rotate_left
  .have gP := z0h cp dC
   refine .skip ?_
   obtain rfl := zAa gP
   exact ⟨am, an, a0, _, rfl, (Ow.reval (j := 6) (Ow.reval (j := 5) cn rfl (ft (A 11 rfl) (ft (u 11 rfl) (ft (p 11 rfl) (ft (l 11 rfl) (ft (g 11 rfl) (ft (f 11 rfl) rfl))))))) rfl (ft (A 10 rfl) (ft (u 10 rfl) (ft (p 10 rfl) (ft (l 10 rfl) (ft (g 10 rfl) (ft (f 10 rfl) rfl))))))), (zAf _), (ft (A 12 rfl) (ft (u 12 rfl) (ft (p 12 rfl) (ft (l 12 rfl) (ft (g 12 rfl) (ft (f 12 rfl) b2))))))⟩
  have gQ := z01 cp dC
  refine .draw2 (M := [0, 0, 2, 7, 0, 0, 0, 96, 224, 480, 1023, 0, 0, 0, 12288, 28672, 63488, 2047, 133119, 524287]) mixed (by kernel_rfl) (by kernel_rfl) fun k7 k8 gR gS => ?_
  have gT := cn.ext gR
  refine D2.q2 (y 10) (ft (A 10 rfl) (ft (u 10 rfl) (ft (p 10 rfl) (ft (l 10 rfl) (ft (g 10 rfl) (ft (f 10 rfl) rfl)))))) (D2.q2 az (ft (A 14 rfl) (ft (u 14 rfl) (ft (p 14 rfl) (ft (l 14 rfl) (ft (g 14 rfl) (ft (f 14 rfl) rfl)))))) (D2.alloc (m := 20) rfl rfl (Al.buildSlice (r := (rSl rS)) (vs := [az]) (xs := [av]) el30 ze39 sz39 (by kernel_rfl) rfl (qc rfl qn) rfl (.cons (z1x (RT.mono _ ey bs)) .nil)) (Free.up (by decide) gS) (by decide) gT ?_))
  rintro cq k9 ⟨aS, kg, gU⟩
  obtain ⟨kh, gV, gW⟩ := z4a (j := 0) rfl aS
  obtain ⟨gX, gY⟩ := z2b gQ
  refine D2.loN rfl rfl (Lo.append (j := 7) (v := (y 10)) rfl rfl el30 ni30 ze39 sz39 by39 (by decide) (by decide) rfl gV gW gX aS) ?_ z08 ?_ ?_
  .rintro bC dD ⟨bD, aU⟩; exact z08
  .rintro bC dD ⟨bD, aU⟩; exact (faI z08)
  rintro bC dD ⟨bD, aU⟩ eh
  have gZ := Free.nx gU eh
  refine D2.q2 (y 11) (ft (A 11 rfl) (ft (u 11 rfl) (ft (p 11 rfl) (ft (l 11 rfl) (ft (g 11 rfl) (ft (f 11 rfl) rfl)))))) (D2.q2 aA (ft (A 2 rfl) (ft (u 2 rfl) (ft (p 2 rfl) (ft (l 2 rfl) (ft (g 2 rfl) (ft (f 2 rfl) (ft (F 2 rfl) (ft (C 2 rfl) rfl)))))))) (D2.q2 (.int .i64 I) (ft (A 13 rfl) (ft (u 13 rfl) (ft (p 13 rfl) (ft (l 13 rfl) (ft (g 13 rfl) (ft (f 13 rfl) rfl)))))) ?_))
  obtain ⟨a6, g0, g1⟩ := z00 gY
  have a7 := z0c g0
  refine D2.pv (z1v aA (I.toNat * 1)) (z2a el31 sz3 ov ov (z0g (RT.mono _ af ab)) a7.1 a7.2.1) (D2.l1 (.int .i64 a6) ag3 (z0i rfl (At.int (At.le (At.le (z1h ab a7.2.2) af af) (zAf _) bD.fro))) (z7h (aU _ (by obtain ⟨k, hk⟩ := aS.vis (zpx (M := bB) (L := (eSl (.slice (some ⟨cq, 0, some 0⟩) 1 1) 39 (rSl rS) [av] :: eSl J 9 rS d.1 :: eVar (oB c) 62 z06 (d.2.2, (oV c 0), (oV c 1), (oV c 2)) :: eSl (oV c 0) 3 (rI .i64) d.2.2.used :: eSl (oV c 1) 4 rB d.2.2.above :: eSl (oV c 2) 4 rB d.2.2.over :: eSl (y 11) 3 (rI .i64) am :: eSl (y 10) 39 (rSl rS) an :: eVar ak 29 z07 E :: L)) (At.le (z1h ab a7.2.2) af af) rfl); exact congrArg Option.isSome hk) (fun hc => aS.neG (j := 7) rfl hc (zky (At.le (z1h ab a7.2.2) af af)) rfl)) z08) (D2.alloc (m := 20) rfl rfl (Al.buildSlice (r := (rI .i64)) (vs := [(.int .i64 a6)]) (xs := [a6]) el31 ze3 sz3 (by kernel_rfl) rfl (qc rfl qn) rfl (.cons rfl .nil)) (Free.up (by decide) gZ) (by decide) bD ?_))
  rintro g2 la ⟨bE, ki, lb⟩
  obtain ⟨kj, g3, g4⟩ := z4a (j := 0) rfl bE
  obtain ⟨g5, g6⟩ := z2b g1
  refine D2.lo rfl rfl (Lo.append (j := 7) (v := (y 11)) rfl rfl el31 ni31 ze3 sz3 by3 (by decide) (by decide) rfl g3 g4 g5 bE) ?_ (faK z08) ?_ ?_
  .rintro cr dE ⟨bF, bG⟩; exact (faI z08)
  .rintro cr dE ⟨bF, bG⟩; exact (faI (faI z08))
  rintro cr dE ⟨bF, bG⟩
  refine D2.q2 _ (ft (A 12 rfl) (ft (u 12 rfl) (ft (p 12 rfl) (ft (l 12 rfl) (ft (g 12 rfl) (ft (f 12 rfl) b2)))))) (D2.q2 aA (ft (A 2 rfl) (ft (u 2 rfl) (ft (p 2 rfl) (ft (l 2 rfl) (ft (g 2 rfl) (ft (f 2 rfl) (ft (F 2 rfl) (ft (C 2 rfl) rfl)))))))) (D2.q2 (.int .i64 I) (ft (A 13 rfl) (ft (u 13 rfl) (ft (p 13 rfl) (ft (l 13 rfl) (ft (g 13 rfl) (ft (f 13 rfl) rfl)))))) ?_))
  obtain ⟨bH, g7, g8⟩ := z00 g6
  have aI := z0c g7
  refine D2.pv (z1v aA (I.toNat * 1)) (z2a el31 sz3 ov ov (z0g (RT.mono _ af ab)) aI.1 aI.2.1) (D2.l1 (.int .i64 bH) ag3 (z0i rfl (At.int (At.le (At.le (z1h ab aI.2.2) af af) (zAf _) bF.fro))) (z7h (bG _ (by obtain ⟨k, hk⟩ := bE.vis (zpx (M := bB) (L := (eSl (.slice (some ⟨g2, 0, some 0⟩) 1 1) 3 (rI .i64) [a6] :: eSl (.slice (some ⟨cq, 0, some 0⟩) 1 1) 39 (rSl rS) [av] :: eSl J 9 rS d.1 :: eVar (oB c) 62 z06 (d.2.2, (oV c 0), (oV c 1), (oV c 2)) :: eSl (oV c 0) 3 (rI .i64) d.2.2.used :: eSl (oV c 1) 4 rB d.2.2.above :: eSl (oV c 2) 4 rB d.2.2.over :: eSl (y 11) 3 (rI .i64) am :: eSl bC 39 (rSl rS) (an ++ [av]) :: eVar ak 29 z07 E :: L)) (At.le (z1h ab aI.2.2) af af) rfl); exact congrArg Option.isSome hk) (fun hc => bE.neG (j := 7) rfl hc (zky (At.le (z1h ab aI.2.2) af af)) rfl)) (z7h (aU _ (by obtain ⟨k, hk⟩ := aS.vis (zpx (M := bB) (L := (eSl (.slice (some ⟨cq, 0, some 0⟩) 1 1) 39 (rSl rS) [av] :: eSl J 9 rS d.1 :: eVar (oB c) 62 z06 (d.2.2, (oV c 0), (oV c 1), (oV c 2)) :: eSl (oV c 0) 3 (rI .i64) d.2.2.used :: eSl (oV c 1) 4 rB d.2.2.above :: eSl (oV c 2) 4 rB d.2.2.over :: eSl (y 11) 3 (rI .i64) am :: eSl (y 10) 39 (rSl rS) an :: eVar ak 29 z07 E :: L)) (At.le (z1h ab aI.2.2) af af) rfl); exact congrArg Option.isSome hk) (fun hc => aS.neG (j := 7) rfl hc (zky (At.le (z1h ab aI.2.2) af af)) rfl)) z08)) (D2.p3 (.int .i64 (z03 .i64 (a0 + bH))) (D2.p1 bC (D2.p1 cr (D2.p1 (.int .i64 (z03 .i64 (a0 + bH))) (.nil ?_))))))
  have g9 := (bF.drop 0).drop 0
  obtain rfl := zAa g8
  exact ⟨(am ++ [a6]), (an ++ [av]), z03 .i64 (a0 + bH), _, rfl, g9, (zAf _), rfl⟩
 rintro S lc au ⟨ha, hb, bI, ld, rfl, dF, dG, dH⟩
 have hd := zb2 gO
 refine .seq (.region ?_)
 obtain ⟨dI, he, dJ⟩ := (dF.atVar (j := 7) rfl)
 refine W.loadA (cs := dI) rfl rfl ag29 sz29 (z0i (ft (au 3 rfl) (ft (A 3 rfl) (ft (u 3 rfl) (ft (p 3 rfl) (ft (l 3 rfl) (ft (g 3 rfl) (ft (f 3 rfl) (ft (F 3 rfl) (ft (C 3 rfl) rfl))))))))) he) (RT.len _ dJ) (W.p2 (S 10) (W.p2 (S 11) ?_))
 have hf := (((((((dF.front (j := 7) rfl).front (j := 5) rfl).front (j := 5) rfl).front (j := 5) rfl).front (j := 5) rfl).front (j := 5) rfl).front (j := 6) rfl).front (j := 7) rfl
 obtain ⟨ac, hh, hi⟩ := z00 hd
 refine W.ln (Lo.callP (ps := [_, _]) (ps' := [_, _]) rfl (fn := Tryz.f9) (by kernel_rfl) rfl (mc rfl (mc rfl (mc rfl mn))) hf (fun aX aq => zft K dI E dJ (S 10) hb (S 11) ha aq _ hh)) ?_
 rintro lf lg ⟨lh, hj, dK, kk, ⟨a8, a9, ba, rfl, dL, dM, dN⟩⟩
 refine W.p2 (.tuple #[a8, a9, ba]) (W.pv a8 (z0j ov rfl) (W.pv a9 (z0j ov rfl) (W.pv ba (z0j ov rfl) (W.p1 a8 (W.p1 a9 (W.p1 ba ?_))))))
 refine .nil (.seq (.region (W.q2 (.pointer (some ⟨(oB c), 0, none⟩)) (ft (au 7 rfl) (ft (A 7 rfl) (ft (u 7 rfl) (ft (p 7 rfl) (ft (l 7 rfl) (ft (g 7 rfl) (ft (f 7 rfl) (ft (F 7 rfl) (ft (C 7 rfl) rfl))))))))) ?_)))
 have hl := (((((((hj.front (j := 7) rfl).front (j := 3) rfl).front (j := 3) rfl).front (j := 3) rfl).front (j := 7) rfl).front (j := 7) rfl).front (j := 7) rfl).front (j := 7) rfl
 obtain ⟨ag, hm, hn⟩ := z00 hi
 refine W.ln (Lo.qF Tryz.f10 (ps := [_, _, _, _]) (pw := fun w => [_, _, _, _, _]) (mc rfl mn) hl (fun aX aq => z9q K (oB c) (oV c 0) (oV c 1) (oV c 2) d.2.2 aq _ hm)) ?_
 rintro li lj ⟨aw, ho, bb, ct, kl, rfl⟩
 refine W.p1 aw (.nil (.seq (.seq ?_)))
 obtain ⟨hp, hq, hr⟩ := z00 hn
 refine AW.midT (fun i T => ∃ (z : Rating_Watch) (ar : List Int) (aD : List Bool) (aM : List Bool) (aZ : Bool) (q : GM), (z, ar, aD, aM, aZ) = hp /\ Ow q T (eSl aw 52 z15 ag.1 :: eVar (oB c) 62 z06 (z, (oV c 0), (oV c 1), (oV c 2)) :: eSl (oV c 0) 3 (rI .i64) ar :: eSl (oV c 1) 4 rB aD :: eSl (oV c 2) 4 rB aM :: eSl (S 10) 39 (rSl rS) ac.2.2.2.1 :: eSl (S 11) 3 (rI .i64) ac.2.2.2.2 :: eSl J 9 rS d.1 :: eVar ak 29 z07 E :: L) /\ GM.le ho q /\ i 165 = .bool aZ) ?_ ?_
 .refine .region (W.p2 aw (W.pv (.int .i64 (ag.1.length : Int)) (z0q ov (bb.slLen (j := 0) rfl) (z05 el46)) (W.pv (padd (.pointer (some ⟨ak, 0, none⟩)) 2) (z0f zd8 (ou (ft (au 3 rfl) (ft (A 3 rfl) (ft (u 3 rfl) (ft (p 3 rfl) (ft (l 3 rfl) (ft (g 3 rfl) (ft (f 3 rfl) (ft (F 3 rfl) (ft (C 3 rfl) rfl)))))))))) (bb.atVar (j := 8) rfl)) ?_)))
  obtain ⟨hs, ht, hu⟩ := At.sl (At.proj (bb.atVar (j := 8) rfl) z0z)
  refine W.l1 hs ag24 (z0i rfl ht) (W.pv (.int .i64 (E.Branches.length : Int)) (z0q ov (z0g hu) (z05 el24)) (W.p3 (.bool ((ag.1.length : Int) != (E.Branches.length : Int))) ?_))
  obtain ⟨hv, hw, dO⟩ := z71 hq
  refine W.q2 _ (congrArg (Value.bool) hw) (W.splitAt (t := 160) (b := hv) rfl (fun cu ah => ?_) (fun cu ah => ?_))
  .have hx := z01 cu dO
   refine W.q6 rfl ah (W.q6 rfl ah (W.q6 rfl ah (W.q6 rfl ah (W.q4 (.bool true) ah rfl (.nil ?_)))))
   obtain rfl := zAa hx
   exact ⟨ag.2, ag.2.used, ag.2.above, ag.2.over, true, _, rfl, bb, (zAf _), rfl⟩
  have hy := z0h cu dO
  refine W.q2 (hg := gk rfl rfl ah rfl) (.pointer (some ⟨(oB c), 0, none⟩)) (ft (au 7 rfl) (ft (A 7 rfl) (ft (u 7 rfl) (ft (p 7 rfl) (ft (l 7 rfl) (ft (g 7 rfl) (ft (f 7 rfl) (ft (F 7 rfl) (ft (C 7 rfl) rfl))))))))) ?_
  have hz := ((((((((bb.front (j := 8) rfl).front (j := 8) rfl).front (j := 8) rfl).front (j := 8) rfl).front (j := 4) rfl).front (j := 8) rfl).front (j := 8) rfl).front (j := 8) rfl).front (j := 8) rfl
  obtain ⟨aJ, hA, hC⟩ := z00 hy
  refine W.lo (gl rfl ah) rfl (Lo.callP (ps := [_, _, _, _]) (ps' := [_, _, _, _]) rfl (fn := Tryz.f11) (by kernel_rfl) rfl (mc rfl mn) hz (fun aX aq => z9r K (oB c) (oV c 0) (oV c 1) (oV c 2) ag.2 aq _ hA)) ?_
  rintro lk ll ⟨lm, hD, hE, km, rfl⟩
  refine W.q2 (hg := gk rfl rfl ah rfl) _ dH (W.q3 (hg := gk rfl rfl ah rfl) (.bool (aJ.1 != bI)) rfl rfl (W.q5 (.bool (aJ.1 != bI)) ah rfl (.nil ?_)))
  have hF := ((((((((hD.front (j := 8) rfl).front (j := 8) rfl).front (j := 8) rfl).front (j := 8) rfl).front (j := 7) rfl).front (j := 7) rfl).front (j := 7) rfl).front (j := 7) rfl).front (j := 8) rfl
  obtain rfl := zAa hC
  exact ⟨aJ.2, aJ.2.used, aJ.2.above, aJ.2.over, (aJ.1 != bI), _, rfl, hF, hE, rfl⟩
 rintro kn lp ai ⟨bc, bd, be, bf, hH, dP, rfl, bJ, cv, hI⟩
 have cw := zAe af (zAe dG (zAe dK (zAe ct cv)))
 have dQ := zow hr
 refine .cond (b := hH) rfl hI (fun cx => ?_) (fun cx => ?_)
 .have hJ := z01 cx dQ
  refine .seq (.region (W.p1 (.bool false) (.nil (.ret ?_))))
  have hK := ((((((((bJ.drop 0).drop 0).drop 0).drop 0).drop 0).drop 0).drop 0).drop 0).drop 0
  obtain rfl := zAa hJ
  have hL := z0a (z3z a2)
  obtain rfl := zAa hL
  have hM := z0a (z3z aY)
  obtain rfl := zAa hM
  exact z1m kr (v1 := (.bool false)) (by rfl) rt hK cw rfl
 have hN := z0h cx dQ
 refine .skip (.seq (.region (W.p1 (.slice none 0 0) (.nil (.seq (.seq ?_))))))
 refine .region (W.pv (padd (.pointer (some ⟨ak, 0, none⟩)) 2) (z0f zd8 (ou (ft (ai 3 rfl) (ft (au 3 rfl) (ft (A 3 rfl) (ft (u 3 rfl) (ft (p 3 rfl) (ft (l 3 rfl) (ft (g 3 rfl) (ft (f 3 rfl) (ft (F 3 rfl) (ft (C 3 rfl) rfl))))))))))) (bJ.atVar (j := 8) rfl)) ?_)
 obtain ⟨dR, hO, cy⟩ := At.sl (At.proj (bJ.atVar (j := 8) rfl) z0z)
 refine W.l1 dR ag24 (z0i rfl hO) (W.pv (.int .i64 (E.Branches.length : Int)) (z0q ov (z0g cy) (z05 el24)) (W.p2 (.int .i64 0) (.nil ?_)))
 obtain ⟨dS, hP, dT⟩ := z1w hN
 refine AW.midT (fun i T => ∃ (z : List zAd) (q : GM), (.inr z) = dS /\ Ow q T (eSl aw 52 z15 ag.1 :: eVar (oB c) 62 z06 (bc, (oV c 0), (oV c 1), (oV c 2)) :: eSl (oV c 0) 3 (rI .i64) bd :: eSl (oV c 1) 4 rB be :: eSl (oV c 2) 4 rB bf :: eSl (S 10) 39 (rSl rS) ac.2.2.2.1 :: eSl (S 11) 3 (rI .i64) ac.2.2.2.2 :: eSl J 9 rS d.1 :: eVar ak 29 z07 E :: eSl (i 22) 9 rS z :: L) /\ GM.le dP q) ?_ ?_
 rotate_left
 .rintro aV lq aE ⟨dU, hQ, rfl, hR, dV⟩
  have hS := z0a (z72 dT)
  refine .seq ?_
  obtain ⟨hT, hU, hV⟩ := z00 hS
  refine AW.midT (fun i T => ∃ (z : Rating_Watch) (ar : List Int) (aD : List Bool) (aM : List Bool) (aZ : Bool) (q : GM), (z, ar, aD, aM, aZ) = hT /\ Ow q T (eSl aw 52 z15 ag.1 :: eVar (oB c) 62 z06 (z, (oV c 0), (oV c 1), (oV c 2)) :: eSl (oV c 0) 3 (rI .i64) ar :: eSl (oV c 1) 4 rB aD :: eSl (oV c 2) 4 rB aM :: eSl (S 10) 39 (rSl rS) ac.2.2.2.1 :: eSl (S 11) 3 (rI .i64) ac.2.2.2.2 :: eSl J 9 rS d.1 :: eVar ak 29 z07 E :: L) /\ GM.le hQ q /\ i 219 = .bool aZ) ?_ ?_
  rotate_left
  .rintro ko lr bK ⟨hW, hX, hY, hZ, h0, ls, rfl, dW, dX, h1⟩
   have j0 := zAe ey (zAe dG (zAe dK (zAe ct (zAe cv (zAe dV dX)))))
   have h2 := zAe cw (zAe dV dX)
   have dY := zow hV
   refine .cond (b := h0) rfl h1 (fun cz => ?_) (fun cz => ?_)
   .have h3 := z01 cz dY
    refine .seq (.region (W.p1 (.bool false) (.nil (.ret ?_))))
    have h4 := ((((((((dW.drop 0).drop 0).drop 0).drop 0).drop 0).drop 0).drop 0).drop 0).drop 0
    obtain rfl := zAa h3
    have h5 := z0a (z3z a2)
    obtain rfl := zAa h5
    have h6 := z0a (z3z aY)
    obtain rfl := zAa h6
    exact z1m kr (v1 := (.bool false)) (by rfl) rt h4 h2 rfl
   have h7 := z0h cz dY
   refine .skip ?_
   have h8 := ((((((((dW.drop 0).drop 6).front (j := 6) rfl).front (j := 4) rfl).front (j := 4) rfl).front (j := 4) rfl).front (j := 4) rfl).front (j := 5) rfl).front (j := 6) rfl
   obtain rfl := zAa h7
   exact ⟨ac.2.2.2.2, ac.2.2.2.1, hW, hX, hY, hZ, bI, _, rfl, (Ow.reval (j := 1) (Ow.reval (j := 0) h8 rfl (ft (bK 11 rfl) (ft (aE 11 rfl) (ft (ai 11 rfl) rfl)))) rfl (ft (bK 10 rfl) (ft (aE 10 rfl) (ft (ai 10 rfl) rfl)))), j0, (ft (bK 12 rfl) (ft (aE 12 rfl) (ft (ai 12 rfl) dH)))⟩
  refine .region (W.q2 (.pointer (some ⟨(oB c), 0, none⟩)) (ft (aE 7 rfl) (ft (ai 7 rfl) (ft (au 7 rfl) (ft (A 7 rfl) (ft (u 7 rfl) (ft (p 7 rfl) (ft (l 7 rfl) (ft (g 7 rfl) (ft (f 7 rfl) (ft (F 7 rfl) (ft (C 7 rfl) rfl))))))))))) ?_)
  have h9 := (((((((((hR.front (j := 9) rfl).front (j := 9) rfl).front (j := 9) rfl).front (j := 9) rfl).front (j := 9) rfl).front (j := 5) rfl).front (j := 9) rfl).front (j := 9) rfl).front (j := 9) rfl).front (j := 9) rfl
  obtain ⟨al, ia, ib⟩ := z00 hU
  refine W.ln (Lo.qF Tryz.f13 (ps := [_, _, _, _]) (pw := fun w => [_, _, _, _, _]) (mc rfl mn) h9 (fun aX aq => z6s K (oB c) (oV c 0) (oV c 1) (oV c 2) ({ bc with used := bd, above := be, over := bf }) aq _ ia)) ?_
  rintro lu lv ⟨ic, lw, id, dZ, kp, rfl⟩
  refine W.p2 (aV 22) ?_
  obtain ⟨lx, ie, d0, ig⟩ := id.frzSl (j := 0) rfl
  obtain ⟨ly, ih, cA, d1⟩ := ie.frzSl (j := 9) rfl
  obtain ⟨bL, ii, d2⟩ := z00 ib
  refine W.ln (Lo.cQ Tryz.f12 (mc rfl (mc rfl mn)) ih (fun aX aq => z47 K ic al.1 (RT.mono _ cA ig) (aV 22) dU d1 aq _ ii)) ?_
  rintro lz lA ⟨lB, cB, cC, kq, rfl⟩
  have ez := zAe dZ (zAe d0 (zAe cA cC))
  refine W.pv (.bool (!bL)) (z1g (a := bL) ov) (W.p2 (.bool (!bL)) (W.splitAt (t := 210) (b := (!bL)) rfl (fun cD Z => ?_) (fun cD Z => ?_)))
  .have ij := z01 cD d2
   refine W.q6 rfl Z (W.q6 rfl Z (W.q6 rfl Z (W.skipU rfl rfl rfl rfl (W.skipU rfl rfl rfl rfl (W.skipU rfl rfl rfl rfl (W.skipU rfl rfl rfl rfl ?_))))))
   refine W.q6 rfl Z (W.q4 (.bool true) Z rfl (.nil ?_))
   have ik := ((((((((cB.front (j := 8) rfl).front (j := 8) rfl).front (j := 8) rfl).front (j := 8) rfl).front (j := 7) rfl).front (j := 7) rfl).front (j := 7) rfl).front (j := 7) rfl).front (j := 8) rfl
   obtain rfl := zAa ij
   exact ⟨al.2, al.2.used, al.2.above, al.2.over, true, _, rfl, ik, ez, rfl⟩
  have d3 := z0h cD d2
  refine W.q2 (hg := gk rfl rfl Z rfl) (.int .i64 d.2.1) (ft (aE 16 rfl) (ft (ai 16 rfl) (ft (au 16 rfl) (ft (A 16 rfl) (ft (u 16 rfl) (ft (p 16 rfl) (ft (l 16 rfl) (ft (g 16 rfl) rfl)))))))) (W.q3 (hg := gk rfl rfl Z rfl) (.bool (d.2.1 == 0)) rfl rfl (W.q2 (hg := gk rfl rfl Z rfl) (.bool (d.2.1 == 0)) rfl (W.splitAt (t := 213) (b := (d.2.1 == 0)) rfl (fun cE aj => ?_) (fun cE aj => ?_))))
  rotate_left
  .have il := z0h cE d3
   refine W.q6 rfl aj (W.q6 rfl aj (W.q6 rfl aj (W.q6 rfl aj (W.q5 (hg := gk rfl rfl Z rfl) (.bool false) aj rfl (W.q5 (.bool false) Z rfl (.nil ?_))))))
   have im := ((((((((cB.front (j := 8) rfl).front (j := 8) rfl).front (j := 8) rfl).front (j := 8) rfl).front (j := 7) rfl).front (j := 7) rfl).front (j := 7) rfl).front (j := 7) rfl).front (j := 8) rfl
   obtain rfl := zAa il
   exact ⟨al.2, al.2.used, al.2.above, al.2.over, false, _, rfl, im, ez, rfl⟩
  have io := z01 cE d3
  refine W.q2 (hg := gk rfl rfl aj rfl) J (ft (aE 15 rfl) (ft (ai 15 rfl) (ft (au 15 rfl) (ft (A 15 rfl) (ft (u 15 rfl) (ft (p 15 rfl) (ft (l 15 rfl) (ft (g 15 rfl) rfl)))))))) (W.q2 (hg := gk rfl rfl aj rfl) (aV 22) rfl ?_)
  obtain ⟨bg, ip, iq⟩ := z00 io
  refine W.lo (gl rfl aj) rfl (Lo.callB (j := 7) rfl rfl (fn := Tryz.f12) (by kernel_rfl) rfl (mc rfl (mc rfl mn)) cB (fun q aX hG aq hB => z47 K J d.1 hB (aV 22) dU (RT.mono _ hG (RT.mono _ cC d1)) aq _ ip)) ?_
  rintro lC lD ⟨lE, ir, it, ks, rfl⟩
  refine W.pure (v := (.bool (!bg))) (gl rfl aj) rfl (z1g (a := bg) ov) (W.q4 (hg := gk rfl rfl Z rfl) (.bool (!bg)) aj rfl (W.q5 (.bool (!bg)) Z rfl (.nil ?_)))
  have iu := ((((((((ir.front (j := 8) rfl).front (j := 8) rfl).front (j := 8) rfl).front (j := 8) rfl).front (j := 7) rfl).front (j := 7) rfl).front (j := 7) rfl).front (j := 7) rfl).front (j := 8) rfl
  obtain rfl := zAa iq
  exact ⟨al.2, al.2.used, al.2.above, al.2.over, (!bg), _, rfl, iu, (zAe dZ (zAe d0 (zAe cA (zAe cC it)))), rfl⟩
 refine .block ?_
 have iv := bJ.nilSl 9 rS
 refine AW.loop (α := Nat) (fun b0 i T => ∃ (z : List zAd) (ar : Int) (q : GM), z14 K E ac ag b0 z ar = some dS /\ Ow q T (eSl (i 22) 9 rS z :: eSl aw 52 z15 ag.1 :: eVar (oB c) 62 z06 (bc, (oV c 0), (oV c 1), (oV c 2)) :: eSl (oV c 0) 3 (rI .i64) bd :: eSl (oV c 1) 4 rB be :: eSl (oV c 2) 4 rB bf :: eSl (S 10) 39 (rSl rS) ac.2.2.2.1 :: eSl (S 11) 3 (rI .i64) ac.2.2.2.2 :: eSl J 9 rS d.1 :: eVar ak 29 z07 E :: L) /\ GM.le dP q /\ i 169 = .int .i64 ar) (fun b0 => b0) K ⟨[], 0, _, hP, iv, (zAf _), rfl⟩ ?_
 rintro cF
 rintro bM lF aF ⟨bN, ad, iw, bO, cG, aK, bP⟩
 have bh := zAe ct (zAe cv aK)
 rcases cF with _ | cF
 .exact z09 bO
 rw [z14] at bO
 refine .seq (.region (W.q3 (.bool (decide (ad < (E.Branches.length : Int)))) bP (ft (aF 168 rfl) rfl) (.nil (.seq (.cond (b := decide (ad < (E.Branches.length : Int))) rfl rfl (fun cH => ?_) (fun cH => ?_))))))
 rotate_left
 .have ix := z0h cH bO
  refine .exit ?_
  have iy := (((((((((cG.front (j := 0) rfl).front (j := 9) rfl).front (j := 9) rfl).front (j := 9) rfl).front (j := 9) rfl).front (j := 9) rfl).front (j := 9) rfl).front (j := 9) rfl).front (j := 9) rfl).front (j := 9) rfl
  obtain rfl := zAa ix
  exact ⟨bN, _, rfl, iy, aK⟩
 have iz := z01 cH bO
 refine .skip (.seq (.block (.seq (.region (W.q2 _ bP ?_)))))
 obtain ⟨aa, iA, iB⟩ := z00 iz
 have cI := z0c iA
 refine W.pv (z1v dR (ad.toNat * 9)) (z2a el24 sz50 (ou (ft (aF 167 rfl) rfl)) (ou bP) (z0g (RT.mono _ aK cy)) cI.1 cI.2.1) ?_
 obtain ⟨d4, iC, d5⟩ := (At.le (At.le (z1h cy cI.2.2) aK aK) (zAf _) cG.fro)
 refine W.loadA (cs := d4) rfl rfl ag50 sz50 (z0i rfl iC) (RT.len _ d5) (W.ln (Lo.alloc (r := z0d) (x0 := (Branch.mk ByteArray.empty ByteArray.empty ByteArray.empty 0 0 0 0 0 0)) ze50 (by kernel_rfl) zai cG) ?_)
 rintro lG lH ⟨bi, rfl, iD, kt⟩
 refine W.p1 (.int .i64 ad) (W.ln (Lo.storeVar (j := 0) (s := z0d) (y0 := aa) (v := (.agg d4.toArray)) (o := 0) rfl ((Put.at (Put.self _) _ _)) rfl sz50 rfl (by omega) rfl d5 iD) ?_)
 rintro lI lJ ⟨cJ, ku⟩
 refine .nil (.seq (.region (W.p1 (.int .i64 (-1)) (.nil (.seq (.seq ?_))))))
 refine .region (W.q2 ba (ft (aF 20 rfl) (ft (ai 20 rfl) rfl)) (W.p2 (.int .i64 ad) ?_))
 obtain ⟨d6, iE, iF⟩ := z00 iB
 have cK := z0c iE
 refine W.pv (z1v ba (ad.toNat * 1)) (z2a el43 sz4 ov ov (z0g (RT.mono _ bh dN)) cK.1 cK.2.1) (W.l1 (.bool d6) ag4 (z0i rfl (At.bool (At.le (At.le (z1h dN cK.2.2) bh bh) (zAf _) cJ.fro))) (.nil ?_))
 obtain ⟨iG, d7, iH⟩ := z00 iF
 refine AW.midT (fun i T => ∃ (z : Int) (q : GM), z = iG /\ Ow q T (eVar bi 50 z0d aa :: eSl (bM 22) 9 rS bN :: eSl aw 52 z15 ag.1 :: eVar (oB c) 62 z06 (bc, (oV c 0), (oV c 1), (oV c 2)) :: eSl (oV c 0) 3 (rI .i64) bd :: eSl (oV c 1) 4 rB be :: eSl (oV c 2) 4 rB bf :: eSl (S 10) 39 (rSl rS) ac.2.2.2.1 :: eSl (S 11) 3 (rI .i64) ac.2.2.2.2 :: eSl J 9 rS d.1 :: eVar ak 29 z07 E :: L) /\ GM.le iw q /\ i 25 = .int .i64 z) ?_ ?_
 .refine .cond (b := d6) rfl rfl (fun cL => ?_) (fun cL => ?_)
  rotate_left
  .have iI := z0h cL d7
   refine .skip ?_
   obtain rfl := zAa iI
   exact ⟨(-1), _, rfl, cJ, (zAf _), rfl⟩
  have iJ := z01 cL d7
  refine .draw2 (M := [0, 1, 0, 0, 12, 28, 63, 127, 255]) mixed (by kernel_rfl) (by kernel_rfl) fun lK lL iK lM => ?_
  have bQ := cJ.ext iK
  refine D2.pv (padd (.pointer (some ⟨bi, 0, none⟩)) 8) (z0f zjg ov (bQ.atVar (j := 0) rfl)) (D2.l1 (.int .i64 aa.Hold) ag3 (z0i rfl (At.int (At.proj (bQ.atVar (j := 0) rfl) z5n))) z08 (D2.q2 a8 (ft (aF 18 rfl) (ft (ai 18 rfl) rfl)) (D2.p2 (.int .i64 ad) ?_)))
  obtain ⟨bj, iL, iM⟩ := z00 iJ
  have cM := z0c iL
  refine D2.pv (z1v a8 (ad.toNat * 1)) (z2a el31 sz3 ov ov (z0g (RT.mono _ bh dL)) cM.1 cM.2.1) (D2.l1 (.int .i64 bj) ag3 (z0i rfl (At.int (At.le (At.le (z1h dL cM.2.2) bh bh) (zAf _) bQ.fro))) z08 (D2.p3 (.int .i64 (z03 .i64 (aa.Hold - bj))) (D2.pv (.int .i64 (imax 0 (z03 .i64 (aa.Hold - bj)))) (zpz ov ov) (D2.p1 (.int .i64 (imax 0 (z03 .i64 (aa.Hold - bj)))) (.nil ?_)))))
  obtain rfl := zAa iM
  exact ⟨imax 0 (z03 .i64 (aa.Hold - bj)), _, rfl, bQ, (zAf _), rfl⟩
 rintro kv lN ap ⟨iN, iO, rfl, bk, cN, iP⟩
 have d8 := zAe bh cN
 have iQ := z0a iH
 refine .seq (.seq (.region (W.q2 a9 (ft (ap 19 rfl) (ft (aF 19 rfl) (ft (ai 19 rfl) rfl))) (W.q2 (.int .i64 ad) (ft (ap 23 rfl) rfl) ?_))))
 obtain ⟨d9, iR, iS⟩ := z00 iQ
 have cO := z0c iR
 refine W.pv (z1v a9 (ad.toNat * 1)) (z2a el43 sz4 ov ov (z0g (RT.mono _ d8 dM)) cO.1 cO.2.1) (W.l1 (.bool d9) ag4 (z0i rfl (At.bool (At.le (At.le (z1h dM cO.2.2) d8 d8) (zAf _) bk.fro))) (.nil ?_))
 obtain ⟨iT, ea, iU⟩ := z00 iS
 refine AW.midT (fun i T => ∃ (z : List zAd) (ar : Int) (q : GM), (z, ar) = iT /\ Ow q T (eVar bi 50 z0d aa :: eSl (i 22) 9 rS z :: eSl aw 52 z15 ag.1 :: eVar (oB c) 62 z06 (bc, (oV c 0), (oV c 1), (oV c 2)) :: eSl (oV c 0) 3 (rI .i64) bd :: eSl (oV c 1) 4 rB be :: eSl (oV c 2) 4 rB bf :: eSl (S 10) 39 (rSl rS) ac.2.2.2.1 :: eSl (S 11) 3 (rI .i64) ac.2.2.2.2 :: eSl J 9 rS d.1 :: eVar ak 29 z07 E :: L) /\ GM.le iO q /\ i 25 = .int .i64 ar) ?_ ?_
 .refine .cond (b := d9) rfl rfl (fun cP => ?_) (fun cP => ?_)
  rotate_left
  .have iV := z0h cP ea
   refine .skip ?_
   obtain rfl := zAa iV
   exact ⟨bN, iN, _, rfl, (Ow.reval (j := 1) bk rfl (ft (ap 22 rfl) rfl)), (zAf _), iP⟩
  have iW := z01 cP ea
  refine .region (W.q2 (bM 22) (ft (ap 22 rfl) rfl) (W.pv (padd (.pointer (some ⟨bi, 0, none⟩)) 0) (z0f zje (ou (ft (ap 24 rfl) rfl)) (bk.atVar (j := 0) rfl)) (W.l1 (.string aa.Name) ag9 (z0i rfl (At.str (At.proj (bk.atVar (j := 0) rfl) z5m))) (W.ln (Lo.buildSlice (r := rS) (vs := [(.string aa.Name)]) (xs := [aa.Name]) el22 ze9 sz9 (by kernel_rfl) rfl (qc rfl qn) rfl (.cons rfl .nil) bk) ?_))))
  rintro lO lP ⟨eb, kx⟩
  obtain ⟨ky, iX, iY⟩ := z4a (j := 0) rfl eb
  obtain ⟨iZ, i0⟩ := z2b iW
  refine W.ln (Lo.append (j := 2) (v := (bM 22)) rfl rfl el22 ni22 ze9 sz9 by9 (by decide) (by decide) rfl iX iY iZ eb) ?_
  rintro i1 lQ ⟨i2, kz⟩
  refine W.p1 i1 (W.p1 (.int .i64 0) (.nil ?_))
  have i3 := i2.drop 0
  obtain rfl := zAa i0
  exact ⟨(bN ++ [aa.Name]), 0, _, rfl, i3, (zAf _), rfl⟩
 rintro kA lR aW ⟨i4, cR, i5, rfl, i6, ec, i7⟩
 have i8 := zAe cw (zAe aK (zAe cN ec))
 have i9 := z3c iU
 refine .seq (.draw2 (M := [0, 0, 3, 7, 0, 16, 0, 112, 255]) mixed (by kernel_rfl) (by kernel_rfl) fun lS lT ja lU => ?_)
 have aT := i6.ext ja
 refine D2.q2 aw (ft (aW 21 rfl) (ft (ap 21 rfl) (ft (aF 21 rfl) (ft (ai 21 rfl) rfl)))) (D2.q2 (.int .i64 ad) (ft (aW 23 rfl) (ft (ap 23 rfl) rfl)) ?_)
 obtain ⟨ed, jb, jc⟩ := z00 i9
 have cS := z0c jb
 refine D2.pv (z1v aw (ad.toNat * 2)) (z2a el46 sz52 ov ov (aT.slLen (j := 2) rfl) cS.1 cS.2.1) ?_
 obtain ⟨jd, je, ee⟩ := (aT.atSl (j := 2) rfl cS.2.2)
 refine D2.loadA' (cs := jd) rfl rfl ag52 sz52 (z0i rfl je) (RT.len _ ee) z08 (D2.pv (padd (.pointer (some ⟨bi, 0, none⟩)) 0) (z0f zje (ou (ft (aW 24 rfl) (ft (ap 24 rfl) rfl))) (aT.atVar (j := 0) rfl)) (D2.l1 (.string aa.Name) ag9 (z0i rfl (At.str (At.proj (aT.atVar (j := 0) rfl) z5m))) z08 (D2.q2 _ i7 ?_)))
 obtain ⟨jf, jg, jh⟩ := z8z (G := i5) ((.string aa.Name)) ((.int .i64 cR)) (rfl) (rfl)
 refine D2.pv (.agg jf.toArray) (jg (z3a rfl (qc' rfl (qc' rfl qn')))) (D2.pv (.bool (!(sEq ed.Name (RatingLeft.mk aa.Name cR).Name && (ed.Left == (RatingLeft.mk aa.Name cR).Left)))) (zc1 ov ov ee jh) ?_)
 obtain ⟨ji, jj, ef⟩ := z71 jc
 refine .nil (.cond (b := ji) rfl (congrArg (Value.bool) jj) (fun cT => ?_) (fun cT => ?_))
 rotate_left
 .have jk := z0h cT ef
  refine .skip (.region (W.q3 (.int .i64 (z03 .i64 (ad + 1))) (ft (aW 169 rfl) (ft (ap 169 rfl) bP)) rfl (W.p2 (.int .i64 (z03 .i64 (ad + 1))) (.nil ?_))))
  have jl := aT.drop 0
  exact ⟨cF, zAg _, ⟨i4, z03 .i64 (ad + 1), _, jk, jl, (zAe aK (zAe cN ec)), rfl⟩⟩
 have jm := z01 cT ef
 refine .seq (.region (W.p1 (.bool false) (.nil (.ret ?_))))
 have jn := ((((((((((aT.drop 0).drop 0).drop 0).drop 0).drop 0).drop 0).drop 0).drop 0).drop 0).drop 0).drop 0
 obtain rfl := zAa jm
 have jo := z0a (z3z dT)
 obtain rfl := zAa jo
 have jp := z0a (z3z a2)
 obtain rfl := zAa jp
 have jq := z0a (z3z aY)
 obtain rfl := zAa jq
 exact z1m kr (v1 := (.bool false)) (by rfl) rt jn i8 rfl
end Go.Am.Tryz
/- Plain law: the program's and the reference's checks of a network, of a name and of a branch are the same. -/
namespace Go.Am.Tryz
open Go Go.Am Go.Proofs
def chP (i : Nat) (c : Int) : Bool := !(!(decide (c >= 65) && decide (c <= 90)) && ((i == 0) || decide (c < 48) || decide (c > 57)))
def zqg (s : zAd) : Bool := !(s.size == 0) && !decide (s.size > 8) && (z04 s).zipIdx.all fun p => chP p.2 p.1
theorem zik {α : Type} {p : α -> Bool} {xs : List α} {i : Nat} {x : α} (h : xs[i]? = some x) : (xs.drop i).all p = (p x && (xs.drop (i + 1)).all p) := by
 have hl := (zAi h).1
 rw [List.drop_eq_getElem_cons hl, List.all_cons]
 congr 2
 rw [zAh hl] at h; simpa using h
theorem ztv {α : Type} (p q z u v : Bool) (A B : Option α) : Option.bind (if p = true then some q else some false) (tu1 fun x34 => Option.bind (if (!x34) = true then (if z = true then some true else (if u = true then some true else some v)) else some false) (tu1 fun x59 => if x59 = true then A else B)) = if (!(!(p && q) && (z || u || v))) = true then B else A := by
 cases p <;> cases q <;> cases z <;> cases u <;> cases v <;> rfl
theorem ztw {α : Type} (p q u v : Bool) (A B : Option α) : Option.bind (if p = true then (if u = true then some true else some v) else (if q = true then (if u = true then some true else some v) else some false)) (tu1 fun x => if x = true then A else B) = if (!(!(!p && !q) && (u || v))) = true then B else A := by
 cases p <;> cases q <;> cases u <;> cases v <;> rfl
theorem zuv (c : Int) : chP 1 c = !(!(!decide (c < 65) && !decide (c > 90)) && (decide (c < 48) || decide (c > 57))) := by
 unfold chP
 have h1 : decide (c >= 65) = !decide (c < 65) := by by_cases h : c < 65 <;> simp [h] <;> omega
 have h2 : decide (c <= 90) = !decide (c > 90) := by by_cases h : c > 90 <;> simp [h] <;> omega
 rw [h1, h2]; simp
theorem znt (K : Nat) (s : zAd) (hs : s.size <= 1048576) : ∀ d k (i : Nat), (z04 s).length - i = d -> d < k ->
  z2i K s k (i : Int) = some (if ((z04 s).zipIdx.drop i).all (fun p => chP p.2 p.1) then .inr () else .inl false) := by
 have hn := z02 s
 intro d
 induction d with
 | zero =>
  intro k i hd hk
  obtain ⟨k, rfl⟩ : ∃ m, k = m + 1 := ⟨k - 1, by omega⟩
  rw [z2i, z4m (by omega), List.drop_eq_nil_of_le (by simp; omega)]
  simp
 | succ d ih =>
  intro k i hd hk
  obtain ⟨k, rfl⟩ : ∃ m, k = m + 1 := ⟨k - 1, by omega⟩
  have hl : i < (z04 s).length := by omega
  have hx : (z04 s)[i]? = some (z04 s)[i] := zAh hl
  have hz : (z04 s).zipIdx[i]? = some ((z04 s)[i], i) := by simp [hl]
  rw [z2i, z7j hl, zik hz]
  simp only [if_true, z2v hx, Option.bind_some]
  generalize (z04 s)[i] = c
  have h1 := ih k (i + 1) (by omega) (by omega)
  rw [<- kw1 hl (by omega)] at h1
  have h0 : ((i : Int) == 0) = (i == 0) := by cases i <;> simp <;> omega
  rw [ztv, h0, h1]
  show (if chP i c = true then _ else _) = _
  cases chP i c <;> simp only [Bool.true_and, Bool.false_and, if_true, Bool.false_eq_true, if_false]
theorem znu (K : Nat) (s : zAd) (hs : s.size <= 1048576) (hK : s.size < K) : z58 K s = some (zqg s) := by
 have h := znt K s hs (z04 s).length K 0 (by omega) (by rw [z02]; exact hK)
 unfold z58
 rw [show ((0 : Nat) : Int) = 0 from rfl] at h
 rw [h]
 have he : sEq s ⟨#[]⟩ = (s.size == 0) := by
  cases hq : sEq s ⟨#[]⟩ with
  | true => rw [z5z] at hq; subst hq; rfl
  | false =>
   have : s.size ≠ 0 := fun h => by
    have : s = ⟨#[]⟩ := by
     cases s with
     | mk d => congr 1; exact Array.eq_empty_of_size_eq_zero h
    rw [z5z.2 this] at hq; cases hq
   simp [this]
 unfold zqg
 rw [List.drop_zero]
 cases hall : (z04 s).zipIdx.all fun p => chP p.2 p.1 with
 | false => simp [z70, tu1, hall]
 | true =>
  simp only [z70, tu0, tu1, hall, he, Option.bind_some, if_true]
  by_cases h0 : s.size = 0
  ·simp [h0]
  ·by_cases h8 : s.size <= 8
   ·have : (s.size : Int) <= 8 := by omega
    have h9 : ¬ s.size > 8 := by omega
    simp [h0, this, h9]
   ·have : ¬ (s.size : Int) <= 8 := by omega
    have h9 : s.size > 8 := by omega
    simp [h0, this, h9]
theorem zjp (K : Nat) (s : zAd) (hs : s.size <= 1048576) : ∀ d k (i : Nat), (z04 s).length - i = d -> d < k ->
  z4r K s k (i : Int) = some (if ((z04 s).drop i).all (fun c => chP 1 c) then .inr () else .inl false) := by
 have hn := z02 s
 intro d
 induction d with
 | zero =>
  intro k i hd hk
  obtain ⟨k, rfl⟩ : ∃ m, k = m + 1 := ⟨k - 1, by omega⟩
  rw [z4r, <- hn, z4m (by omega), List.drop_eq_nil_of_le (by omega)]
  simp
 | succ d ih =>
  intro k i hd hk
  obtain ⟨k, rfl⟩ : ∃ m, k = m + 1 := ⟨k - 1, by omega⟩
  have hl : i < (z04 s).length := by omega
  have hx : (z04 s)[i]? = some (z04 s)[i] := zAh hl
  rw [z4r, <- hn, z7j hl, zik hx]
  simp only [if_true, zab, z2v hx, Option.bind_some]
  generalize (z04 s)[i] = c
  have h1 := ih k (i + 1) (by omega) (by omega)
  rw [<- kw1 hl (by omega)] at h1
  rw [ztw, h1, <- zuv]
  cases chP 1 c <;> simp only [Bool.true_and, Bool.false_and, if_true, Bool.false_eq_true, if_false]
theorem zs4 (xs : List Int) : ∀ k, 0 < k -> (xs.zipIdx k).all (fun p => chP p.2 p.1) = xs.all (fun c => chP 1 c) := by
 induction xs with
 | nil => intro k _; rfl
 | cons c xs ih =>
  intro k hk
  rw [List.zipIdx_cons, List.all_cons, List.all_cons, ih (k + 1) (by omega)]
  have : chP k c = chP 1 c := by
   unfold chP
   have : (k == 0) = false := by simp; omega
   simp [this]
  rw [this]
theorem zlp (K : Nat) (s : zAd) (hs : s.size <= 1048576) (hK : s.size < K) : z9f K s = some (zqg s) := by
 have h := zjp K s hs (z04 s).length K 0 (by omega) (by rw [z02]; exact hK)
 rw [show ((0 : Nat) : Int) = 0 from rfl, List.drop_zero] at h
 have hn := z02 s
 unfold z9f zqg
 rw [h]
 by_cases h0 : s.size = 0
 ·simp [h0, tu1]
 ·have h0' : ¬ ((s.size : Int) = 0) := by omega
  by_cases h8 : s.size > 8
  ·have : (s.size : Int) > 8 := by omega
   simp [h0, h8, this, tu1]
  ·have h8' : ¬ (s.size : Int) > 8 := by omega
   cases hb : z04 s with
   | nil => rw [hb] at hn; simp at hn; omega
   | cons c xs =>
    have hi : bidx s 0 = some c := by rw [zab, hb]; rfl
    rw [List.zipIdx_cons, List.all_cons, List.all_cons, zs4 xs (0 + 1) (by omega)]
    by_cases a : c < 65
    ·have a' : ¬ c >= 65 := by omega
     simp [h0, h0', h8, h8', tu1, hi, a, a', chP]
    ·have a' : c >= 65 := by omega
     by_cases b : c > 90
     ·have b' : ¬ c <= 90 := by omega
      simp [h0, h0', h8, h8', tu1, hi, a, a', b, b', chP]
     ·have b' : c <= 90 := by omega
      cases hall : xs.all fun c => chP 1 c <;> simp [h0, h0', h8, h8', tu1, tu0, hi, a, a', b, b', chP, z70, hall]
def hasS (l : List zAd) (s : zAd) : Bool := l.any fun x => sEq s x
theorem zlq (K : Nat) (l : List zAd) (s : zAd) (hl : l.length <= 1048576) : ∀ d k (i : Nat), l.length - i = d -> d < k ->
  ∃ j : Nat, z0o K l s k (i : Int) = some (if (l.drop i).any (fun x => sEq s x) then .inl (j : Int) else .inr ()) := by
 intro d
 induction d with
 | zero =>
  intro k i hd hk
  obtain ⟨k, rfl⟩ : ∃ m, k = m + 1 := ⟨k - 1, by omega⟩
  exact ⟨0, by rw [z0o, z4m (by omega), List.drop_eq_nil_of_le (by omega)]; simp⟩
 | succ d ih =>
  intro k i hd hk
  obtain ⟨k, rfl⟩ : ∃ m, k = m + 1 := ⟨k - 1, by omega⟩
  have hi : i < l.length := by omega
  have hx : l[i]? = some l[i] := zAh hi
  obtain ⟨j, h1⟩ := ih k (i + 1) (by omega) (by omega)
  rw [<- kw1 hi (by omega)] at h1
  rw [z0o, z7j hi, List.drop_eq_getElem_cons hi, List.any_cons]
  simp only [if_true, z2v hx, Option.bind_some]
  cases hq : sEq s l[i] with
  | true => exact ⟨i, by simp⟩
  | false => exact ⟨j, by simpa using h1⟩
theorem zcf (K : Nat) (l : List zAd) (s : zAd) (hl : l.length <= 1048576) (hK : l.length < K) : z0y K l s = some (hasS l s) := by
 obtain ⟨j, h⟩ := zlq K l s hl l.length K 0 (by omega) hK
 rw [show ((0 : Nat) : Int) = 0 from rfl, List.drop_zero] at h
 unfold z0y z22 hasS
 rw [h]
 cases hq : l.any fun x => sEq s x with
 | true => simp [z70, tu1]
 | false => simp [z70, tu0]
theorem zlr (K : Nat) (l : List zAd) (s : zAd) (hl : l.length <= 1048576) : ∀ d k (i : Nat), l.length - i = d -> d < k ->
  ∃ j : Nat, z5h K l s k (i : Int) = some (if (l.drop i).any (fun x => sEq s x) then .inl (j : Int) else .inr ()) := by
 intro d
 induction d with
 | zero =>
  intro k i hd hk
  obtain ⟨k, rfl⟩ : ∃ m, k = m + 1 := ⟨k - 1, by omega⟩
  exact ⟨0, by rw [z5h, z4m (by omega), List.drop_eq_nil_of_le (by omega)]; simp⟩
 | succ d ih =>
  intro k i hd hk
  obtain ⟨k, rfl⟩ : ∃ m, k = m + 1 := ⟨k - 1, by omega⟩
  have hi : i < l.length := by omega
  have hx : l[i]? = some l[i] := zAh hi
  obtain ⟨j, h1⟩ := ih k (i + 1) (by omega) (by omega)
  rw [<- kw1 hi (by omega)] at h1
  rw [z5h, z7j hi, List.drop_eq_getElem_cons hi, List.any_cons]
  simp only [if_true, z2v hx, Option.bind_some]
  rw [zqa l[i] s]
  cases hq : sEq s l[i] with
  | true => exact ⟨i, by simp⟩
  | false => exact ⟨j, by simpa using h1⟩
theorem zp8 (K : Nat) (l : List zAd) (s : zAd) (hl : l.length <= 1048576) (hK : l.length < K) : zeu K l s = some (hasS l s) := by
 obtain ⟨j, h⟩ := zlr K l s hl l.length K 0 (by omega) hK
 rw [show ((0 : Nat) : Int) = 0 from rfl, List.drop_zero] at h
 unfold zeu zcq hasS
 rw [h]
 cases hq : l.any fun x => sEq s x with
 | true => simp [z70, tu1]
 | false => simp [z70, tu0]
end Go.Am.Tryz
/- Plain law: the program's and the reference's checks of a network are the same. -/
namespace Go.Am.Tryz
open Go Go.Am Go.Proofs
def addS (met : List zAd) (s : zAd) : Int × List zAd := if !(zqg s) then (5, met) else if hasS met s then (7, met) else (0, met ++ [s])
def ztc (n : Network) (l : List zAd) : Int := if l.all (hasS n.Nodes) then 0 else 6
def devS (n : Network) (met : List zAd) (s : zAd) (l : List zAd) : Int × List zAd := if (addS met s).1 != 0 then addS met s else (ztc n l, (addS met s).2)
def inS (a b c : Int) : Bool := decide (a >= b) && decide (a <= c)
def brS (b : Branch) : Bool := inS b.X 1 10000 && inS b.Tap 500 1500 && inS b.Shift (-1000) 1000 && inS b.Limit 0 100000 && inS b.Short b.Limit 100000 && inS b.Hold 0 200000
def chkN (x : zAd) (met : List zAd) : Int ⊕ List zAd := if (addS met x).1 != 0 then .inl (addS met x).1 else .inr (addS met x).2
def apS (x : Item) : Bool := x.apart && (match x.nodes with | a :: b :: _ => sEq a b | _ => false)
def chkI (n : Network) (x : Item) (met : List zAd) : Int ⊕ List zAd :=
 if (devS n met x.name x.nodes).1 != 0 then .inl (devS n met x.name x.nodes).1 else
 if apS x then .inl 3 else if x.bad then .inl 4 else .inr (devS n met x.name x.nodes).2
def iSw (s : Switch) : Item := ⟨s.Name, [s.A, s.B], true, false⟩
def iBr (b : Branch) : Item := ⟨b.Name, [b.From, b.To], true, !brS b⟩
def iGe (g : Gen) : Item := ⟨g.Name, [g.Node], false, !(inS g.Least 0 100000 && inS g.Most g.Least 100000 && inS g.Ramp 0 100000)⟩
def iLo (d : Load_) : Item := ⟨d.Name, [d.Node], false, !inS d.Demand 0 100000⟩
def iSt (s : Store) : Item := ⟨s.Name, [s.Node], false, !(inS s.Charge 0 100000 && inS s.Discharge 0 100000 && inS s.Capacity 0 100000)⟩
def z9s (n : Network) : List Item := n.Switches.map iSw ++ n.Branches.map iBr ++ n.Gens.map iGe ++ n.Loads.map iLo ++ n.Stores.map iSt
def bigS (n : Network) : Bool := decide (n.Nodes.length > 24) || decide (n.Switches.length > 32) || decide (n.Branches.length > 24) || decide (n.Gens.length > 10) || decide (n.Loads.length > 12) || decide (n.Stores.length > 4)
def netS (n : Network) : Int := if bigS n then 2 else Sum.elim id (fun met => Sum.elim id (fun _ => 0) (runS (chkI n) (z9s n) met)) (runS chkN n.Nodes [])
theorem zfx (met : List zAd) (s : zAd) : (addS met s).2.length <= met.length + 1 := by
 unfold addS
 split
 ·simp
 ·split <;> simp
theorem zaq (n : Network) (met : List zAd) (s : zAd) (l : List zAd) : (devS n met s l).2.length <= met.length + 1 := by
 unfold devS
 split <;> exact zfx met s
structure Fit (K : Nat) (n : Network) : Prop where
 nodes : ∀ s ∈ n.Nodes, s.size < K
 sw : ∀ x ∈ n.Switches, x.Name.size < K
 br : ∀ x ∈ n.Branches, x.Name.size < K
 ge : ∀ x ∈ n.Gens, x.Name.size < K
 lo : ∀ x ∈ n.Loads, x.Name.size < K
 st : ∀ x ∈ n.Stores, x.Name.size < K
 many : 200 < K
variable {K : Nat} {n : Network}
theorem zls (hK : 200 < K) (p : Netmodel_names) (s : zAd) (hs : s.size < K) (hs' : s.size <= 1048576) (hp : p.l.length <= 150) : z2j K p s = some ((addS p.l s).1, ⟨(addS p.l s).2⟩) := by
 unfold z2j addS
 rw [znu K s hs' hs]
 simp only [Option.bind_some]
 cases zqg s with
 | false => simp
 | true =>
  rw [zcf K p.l s (by omega) (by omega)]
  cases hasS p.l s with
  | true => simp
  | false =>
   have : p.l.length + 1 <= 16777216 := by omega
   simp [this]
theorem zlt (hK : 200 < K) (p : List zAd) (s : zAd) (hs : s.size < K) (hs' : s.size <= 1048576) (hp : p.length <= 150) : z4y K s p = some (addS p s) := by
 unfold z4y addS
 rw [zlp K s hs' hs]
 simp only [Option.bind_some]
 cases zqg s with
 | false => simp
 | true =>
  rw [zp8 K p s (by omega) (by omega)]
  cases hasS p s with
  | true => simp
  | false =>
   have : p.length + 1 <= 16777216 := by omega
   simp [this]
theorem zhw {E : Type} (p : zAd -> Bool) (e : E) : ∀ (l : List zAd), runS (fun x (_ : Unit) => if p x then .inr () else .inl e) l () = if l.all p then .inr () else .inl e
 | [] => rfl
 | x :: l => by
  simp only [runS, List.all_cons]
  by_cases hp : p x = true
  ·simp only [hp, if_true, Bool.true_and]; exact zhw p e l
  ·simp [hp]
theorem znv (l : List zAd) (hn : n.Nodes.length <= 1048576) (hn' : n.Nodes.length < K) (hl : l.length < K) (hl' : l.length <= 1048576) : z59 K n l = some (ztc n l) := by
 have h : z19 K n l K 0 = _ := z7r l (fun k (_ : Unit) i => z19 K n l k i) (fun x (_ : Unit) => if hasS n.Nodes x then .inr () else .inl (6 : Int)) (fun _ _ => True)
  (fun k s i x hx _ => by
   have hi := (zAi hx).1
   show z19 K n l (k + 1) i = _
   rw [z19, z7j hi]
   simp only [if_true, z2v hx, Option.bind_some, zcf K n.Nodes x hn hn', kw1 hi (by omega)]
   cases hasS n.Nodes x <;> simp)
  (fun _ _ _ _ _ _ _ => trivial)
  (fun k s i hi => by
   show z19 K n l (k + 1) i = _
   rw [z19, z4m hi]; simp) K () hl trivial
 unfold z59 ztc
 rw [h, zhw]
 cases l.all (hasS n.Nodes) <;> simp [z70, tu0, tu1]
theorem zqh (x : Item) (hn : n.Nodes.length <= 1048576) (hn' : n.Nodes.length < K) (hl : x.nodes.length < K) (hl' : x.nodes.length <= 1048576) : z1p K n x K 0 = some (if x.nodes.all (hasS n.Nodes) then .inr () else .inl 6) := by
 have h : z1p K n x K 0 = _ := z7r x.nodes (fun k (_ : Unit) i => z1p K n x k i) (fun x (_ : Unit) => if hasS n.Nodes x then .inr () else .inl (6 : Int)) (fun _ _ => True)
  (fun k s i y hx _ => by
   have hi := (zAi hx).1
   show z1p K n x (k + 1) i = _
   rw [z1p, z7j hi]
   simp only [if_true, z2v hx, Option.bind_some, zp8 K n.Nodes y hn hn', kw1 hi (by omega)]
   cases hasS n.Nodes y <;> simp)
  (fun _ _ _ _ _ _ _ => trivial)
  (fun k s i hi => by
   show z1p K n x (k + 1) i = _
   rw [z1p, z4m hi]; simp) K () hl trivial
 rw [h, zhw]
theorem zds (hK : 200 < K) (hn : n.Nodes.length <= 24) (p : Netmodel_names) (s : zAd) (l : List zAd) (hs : s.size < K) (hs' : s.size <= 1048576) (hp : p.l.length <= 150) (hl : l.length <= 2) :
  z1r K n p s l = some ((devS n p.l s l).1, ⟨(devS n p.l s l).2⟩) := by
 unfold z1r devS
 rw [zls hK _ s hs hs' hp]
 simp only [Option.bind_some]
 cases h : (addS p.l s).1 != 0 with
 | true => simp [h]
 | false =>
  rw [znv l (by omega) (by omega) (by omega) (by omega)]
  simp [h]
theorem za2 (K : Nat) (a b c : Int) : z0l K a b c = some (inS a b c) := by
 unfold z0l inS
 cases decide (a >= b) <;> simp [tu1]
theorem zjq (K : Nat) (a b c : Int) : z9g K a b c = some (inS a b c) := by
 have h1 : decide (a >= b) = !decide (a < b) := by by_cases h : a < b <;> simp [h] <;> omega
 have h2 : decide (a <= c) = !decide (a > c) := by by_cases h : a > c <;> simp [h] <;> omega
 unfold z9g inS
 rw [h1, h2]
 cases decide (a < b) <;> simp [tu1]
theorem zjr (K : Nat) (b : Branch) : z4b K b = some (if brS b then 0 else 4) := by
 unfold z4b brS
 simp only [za2, Option.bind_some]
 cases inS b.X 1 10000 <;> cases inS b.Tap 500 1500 <;> cases inS b.Shift (-1000) 1000 <;> cases inS b.Limit 0 100000 <;> cases inS b.Short b.Limit 100000 <;> cases inS b.Hold 0 200000 <;> rfl
theorem z9t (K : Nat) (b : Branch) : z5c K b = some (if brS b then 0 else 4) := by
 unfold z5c brS
 simp only [zjq, Option.bind_some]
 cases inS b.X 1 10000 <;> cases inS b.Tap 500 1500 <;> cases inS b.Shift (-1000) 1000 <;> cases inS b.Limit 0 100000 <;> cases inS b.Short b.Limit 100000 <;> cases inS b.Hold 0 200000 <;> rfl
end Go.Am.Tryz
/- Plain law: NetmodelChecks answers true. -/
namespace Go.Am.Tryz
open Go Go.Am Go.Proofs
variable {K : Nat} {n : Network}
theorem zfy {α S T E Q : Type} (chk : α -> S -> E ⊕ S) (g : S -> T) (chk' : α -> T -> (E × Q) ⊕ T) (q0 : Q) (h : ∀ x s, ∃ q, chk' x (g s) = Sum.elim (fun e => .inl (e, q)) (fun s' => .inr (g s')) (chk x s)) :
  ∀ (xs : List α) (s : S), ∃ q, runS chk' xs (g s) = Sum.elim (fun e => .inl (e, q)) (fun s' => .inr (g s')) (runS chk xs s)
 | [], s => ⟨q0, rfl⟩
 | x :: xs, s => by
  simp only [runS]
  obtain ⟨q, hq⟩ := h x s
  rw [hq]
  cases chk x s with
  | inl e => exact ⟨q, rfl⟩
  | inr s' => exact zfy chk g chk' q0 h xs s'
def Sh (K : Nat) (s : zAd) : Prop := s.size < K /\ s.size <= 1048576
structure Fits (K : Nat) (n : Network) : Prop where
 many : 200 < K
 nodes : ∀ s ∈ n.Nodes, Sh K s
 sw : ∀ x ∈ n.Switches, Sh K x.Name
 br : ∀ x ∈ n.Branches, Sh K x.Name
 ge : ∀ x ∈ n.Gens, Sh K x.Name
 lo : ∀ x ∈ n.Loads, Sh K x.Name
 st : ∀ x ∈ n.Stores, Sh K x.Name
abbrev NL := Netmodel_names × List zAd
def gNL (m : List zAd) : NL := (⟨m⟩, m)
theorem zh2 {α : Type} {xs : List α} {i : Nat} {x : α} (h : xs[i]? = some x) : x ∈ xs := List.mem_of_getElem? h
theorem zil {α : Type} {xs : List α} {i : Nat} {x : α} (h : xs[i]? = some x) : i < xs.length := (zAi h).1
theorem ztx (F : Fits K n) (hn : n.Nodes.length <= 24) : z11 K n K ⟨[]⟩ [] 0 = some (Sum.elim .inl (fun m => .inr (gNL m)) (runS chkN n.Nodes [])) := by
 have hm := F.many
 have h : z11 K n K (gNL []).1 (gNL []).2 0 = _ := z7r n.Nodes (fun k (s : NL) i => z11 K n k s.1 s.2 i)
  (fun x s => if (addS s.2 x).1 != 0 then .inl (addS s.2 x).1 else .inr (gNL (addS s.2 x).2)) (fun s i => s.2.length <= i)
  (fun k s i x hx hI => by
   obtain ⟨h1, h2⟩ := F.nodes x (zh2 hx)
   have hi := zil hx
   show z11 K n (k + 1) s.1 s.2 i = _
   rw [z11, z7j hi]
   simp only [if_true, z2v hx, Option.bind_some, zls hm ⟨s.2⟩ x h1 h2 (by show s.2.length <= 150; omega), kw1 hi (by omega)]
   by_cases h : ((addS s.2 x).1 != 0) = true <;> simp [h, gNL])
  (fun s i x s' hx hI hc => by
   have := zfx s.2 x
   split at hc
   ·cases hc
   ·cases hc; show (addS s.2 x).2.length <= i + 1; omega)
  (fun k s i hi => by
   show z11 K n (k + 1) s.1 s.2 i = _
   rw [z11, z4m hi]; simp) K (gNL []) (by omega) (by simp [gNL])
 rw [zcp chkN gNL _ (fun x s => by unfold chkN; by_cases h : ((addS s x).1 != 0) = true <;> simp [h, gNL])] at h
 exact h
theorem zdt {α E : Type} (F : Fits K n) (hn : n.Nodes.length <= 24) (xs : List α) (it : α -> Item) (l : Nat -> NL -> Int -> Option (E ⊕ NL)) (hx : xs.length <= 32) (m : List zAd) (hmm : m.length <= 110)
  (c : α -> NL -> E ⊕ NL) (h : ∀ k (s : NL) (i : Nat) x, xs[i]? = some x -> s.2.length <= 145 -> l (k + 1) s i = Sum.elim (fun e => some (.inl e)) (fun s' => l k s' ((i + 1 : Nat) : Int)) (c x s))
  (hc : ∀ x s s', c x s = .inr s' -> s'.2.length <= s.2.length + 1) (h0 : ∀ k s (i : Nat), xs.length <= i -> l (k + 1) s i = some (.inr s)) : l K (gNL m) 0 = some (runS c xs (gNL m)) := by
 have hm := F.many
 refine z7r xs l c (fun s i => s.2.length <= m.length + i) (fun k s i x hx' hI => h k s i x hx' (by have := zil hx'; omega)) (fun s i x s' hx' hI hc' => by have := hc x s s' hc'; omega) h0 K (gNL m) (by omega) (by simp [gNL])
theorem zdu {α : Type} {n : Network} (it : α -> Item) : ∀ (xs : List α) (m m' : List zAd), runS (fun x => chkI n (it x)) xs m = .inr m' -> m'.length <= m.length + xs.length
 | [], m, m', h => by cases h; simp
 | x :: xs, m, m', h => by
  simp only [runS] at h
  cases hq : chkI n (it x) m with
  | inl e => rw [hq] at h; cases h
  | inr m1 =>
   rw [hq] at h
   have h1 := zdu it xs m1 m' h
   have h2 : m1.length <= m.length + 1 := by
    unfold chkI at hq
    have h3 := zaq n m (it x).name (it x).nodes
    split at hq
    ·cases hq
    ·split at hq
     ·cases hq
     ·split at hq
      ·cases hq
      ·cases hq; exact h3
   simp; omega
theorem zty (F : Fits K n) (hn : n.Nodes.length <= 24) (hx : n.Switches.length <= 32) (m : List zAd) (hmm : m.length <= 110) : z12 K n K ⟨m⟩ m 0 = some (Sum.elim .inl (fun m => .inr (gNL m)) (runS (fun x => chkI n (iSw x)) n.Switches m)) := by
 have hm := F.many
 have h : z12 K n K (gNL m).1 (gNL m).2 0 = _ := zdt F hn n.Switches iSw (fun k (s : NL) i => z12 K n k s.1 s.2 i) hx m hmm
  (fun x s => if (devS n s.2 x.Name [x.A, x.B]).1 != 0 then .inl (devS n s.2 x.Name [x.A, x.B]).1 else if sEq x.A x.B then .inl 3 else .inr (gNL (devS n s.2 x.Name [x.A, x.B]).2))
  (fun k s i x hx' hI => by
   obtain ⟨h1, h2⟩ := F.sw x (zh2 hx')
   have hi := zil hx'
   show z12 K n (k + 1) s.1 s.2 i = _
   rw [z12, z7j hi]
   simp only [if_true, z2v hx', Option.bind_some, zds hm hn ⟨s.2⟩ x.Name [x.A, x.B] h1 h2 (by show s.2.length <= 150; omega) (by simp), kw1 hi (by omega)]
   by_cases h : ((devS n s.2 x.Name [x.A, x.B]).1 != 0) = true <;> by_cases h2 : sEq x.A x.B = true <;> simp [gNL, h, h2])
  (fun x s s' hc => by
   have := zaq n s.2 x.Name [x.A, x.B]
   split at hc
   ·cases hc
   ·split at hc
    ·cases hc
    ·cases hc; exact this)
  (fun k s i hi => by
   show z12 K n (k + 1) s.1 s.2 i = _
   rw [z12, z4m hi]; simp)
 rw [zcp (fun x => chkI n (iSw x)) gNL _ (fun x s => by simp only [chkI, iSw, gNL, apS, Bool.true_and]; by_cases h : ((devS n s x.Name [x.A, x.B]).1 != 0) = true <;> by_cases h2 : sEq x.A x.B = true <;> simp [h, h2])] at h
 exact h
theorem ztz (F : Fits K n) (hn : n.Nodes.length <= 24) (hx : n.Branches.length <= 32) (m : List zAd) (hmm : m.length <= 110) : z13 K n K ⟨m⟩ m 0 = some (Sum.elim .inl (fun m => .inr (gNL m)) (runS (fun x => chkI n (iBr x)) n.Branches m)) := by
 have hm := F.many
 have h : z13 K n K (gNL m).1 (gNL m).2 0 = _ := zdt F hn n.Branches iBr (fun k (s : NL) i => z13 K n k s.1 s.2 i) hx m hmm
  (fun x s => if (devS n s.2 x.Name [x.From, x.To]).1 != 0 then .inl (devS n s.2 x.Name [x.From, x.To]).1 else if sEq x.From x.To then .inl 3 else if brS x then .inr (gNL (devS n s.2 x.Name [x.From, x.To]).2) else .inl 4)
  (fun k s i x hx' hI => by
   obtain ⟨h1, h2⟩ := F.br x (zh2 hx')
   have hi := zil hx'
   show z13 K n (k + 1) s.1 s.2 i = _
   rw [z13, z7j hi]
   simp only [if_true, z2v hx', Option.bind_some, zds hm hn ⟨s.2⟩ x.Name [x.From, x.To] h1 h2 (by show s.2.length <= 150; omega) (by simp), kw1 hi (by omega), zjr]
   by_cases h : ((devS n s.2 x.Name [x.From, x.To]).1 != 0) = true <;> by_cases h2 : sEq x.From x.To = true <;> by_cases h3 : brS x = true <;> simp [gNL, h, h2, h3])
  (fun x s s' hc => by
   have := zaq n s.2 x.Name [x.From, x.To]
   split at hc
   ·cases hc
   ·split at hc
    ·cases hc
    ·split at hc
     ·cases hc; exact this
     ·cases hc)
  (fun k s i hi => by
   show z13 K n (k + 1) s.1 s.2 i = _
   rw [z13, z4m hi]; simp)
 rw [zcp (fun x => chkI n (iBr x)) gNL _ (fun x s => by simp only [chkI, iBr, gNL, apS, Bool.true_and]; by_cases h : ((devS n s x.Name [x.From, x.To]).1 != 0) = true <;> by_cases h2 : sEq x.From x.To = true <;> by_cases h3 : brS x = true <;> simp [h, h2, h3])] at h
 exact h
end Go.Am.Tryz
/- Plain law: NetmodelChecks answers true. -/
namespace Go.Am.Tryz
open Go Go.Am Go.Proofs
variable {K : Nat} {n : Network}
theorem zu0 (F : Fits K n) (hn : n.Nodes.length <= 24) (hx : n.Gens.length <= 32) (m : List zAd) (hmm : m.length <= 110) : ∃ q, z0s K n K ⟨m⟩ m 0 = some (Sum.elim (fun e => .inl (e, q)) (fun m => .inr (gNL m)) (runS (fun x => chkI n (iGe x)) n.Gens m)) := by
 have hm := F.many
 have h : z0s K n K (gNL m).1 (gNL m).2 0 = _ := zdt F hn n.Gens iGe (fun k (s : NL) i => z0s K n k s.1 s.2 i) hx m hmm
  (fun x s => if (devS n s.2 x.Name [x.Node]).1 != 0 then .inl ((devS n s.2 x.Name [x.Node]).1, (⟨(devS n s.2 x.Name [x.Node]).2⟩ : Netmodel_names)) else if inS x.Least 0 100000 && inS x.Most x.Least 100000 && inS x.Ramp 0 100000 then .inr (gNL (devS n s.2 x.Name [x.Node]).2) else .inl (4, ⟨(devS n s.2 x.Name [x.Node]).2⟩))
  (fun k s i x hx' hI => by
   obtain ⟨h1, h2⟩ := F.ge x (zh2 hx')
   have hi := zil hx'
   show z0s K n (k + 1) s.1 s.2 i = _
   rw [z0s, z7j hi]
   simp only [if_true, z2v hx', Option.bind_some, zds hm hn ⟨s.2⟩ x.Name [x.Node] h1 h2 (by show s.2.length <= 150; omega) (by simp), kw1 hi (by omega), za2]
   by_cases h : ((devS n s.2 x.Name [x.Node]).1 != 0) = true <;> by_cases h2 : inS x.Least 0 100000 = true <;> by_cases h3 : inS x.Most x.Least 100000 = true <;> by_cases h4 : inS x.Ramp 0 100000 = true <;> simp [gNL, h, h2, h3, h4, tu1])
  (fun x s s' hc => by
   have := zaq n s.2 x.Name [x.Node]
   split at hc
   ·cases hc
   ·split at hc
    ·cases hc; exact this
    ·cases hc)
  (fun k s i hi => by
   show z0s K n (k + 1) s.1 s.2 i = _
   rw [z0s, z4m hi]; simp)
 obtain ⟨q, hq⟩ := zfy (fun x => chkI n (iGe x)) gNL (fun x (s : NL) => if (devS n s.2 x.Name [x.Node]).1 != 0 then .inl ((devS n s.2 x.Name [x.Node]).1, (⟨(devS n s.2 x.Name [x.Node]).2⟩ : Netmodel_names)) else if inS x.Least 0 100000 && inS x.Most x.Least 100000 && inS x.Ramp 0 100000 then .inr (gNL (devS n s.2 x.Name [x.Node]).2) else .inl (4, ⟨(devS n s.2 x.Name [x.Node]).2⟩)) (⟨[]⟩ : Netmodel_names)
  (fun x s => ⟨⟨(devS n s x.Name [x.Node]).2⟩, by simp only [chkI, iGe, gNL, apS, Bool.false_and]; by_cases h : ((devS n s x.Name [x.Node]).1 != 0) = true <;> by_cases h2 : inS x.Least 0 100000 = true <;> by_cases h3 : inS x.Most x.Least 100000 = true <;> by_cases h4 : inS x.Ramp 0 100000 = true <;> simp [h, h2, h3, h4]⟩) n.Gens m
 rw [hq] at h
 exact ⟨q, h⟩
theorem zu1 (F : Fits K n) (hn : n.Nodes.length <= 24) (hx : n.Loads.length <= 32) (m : List zAd) (hmm : m.length <= 110) : ∃ q, z0t K n K ⟨m⟩ m 0 = some (Sum.elim (fun e => .inl (e, q)) (fun m => .inr (gNL m)) (runS (fun x => chkI n (iLo x)) n.Loads m)) := by
 have hm := F.many
 have h : z0t K n K (gNL m).1 (gNL m).2 0 = _ := zdt F hn n.Loads iLo (fun k (s : NL) i => z0t K n k s.1 s.2 i) hx m hmm
  (fun x s => if (devS n s.2 x.Name [x.Node]).1 != 0 then .inl ((devS n s.2 x.Name [x.Node]).1, (⟨(devS n s.2 x.Name [x.Node]).2⟩ : Netmodel_names)) else if inS x.Demand 0 100000 then .inr (gNL (devS n s.2 x.Name [x.Node]).2) else .inl (4, ⟨(devS n s.2 x.Name [x.Node]).2⟩))
  (fun k s i x hx' hI => by
   obtain ⟨h1, h2⟩ := F.lo x (zh2 hx')
   have hi := zil hx'
   show z0t K n (k + 1) s.1 s.2 i = _
   rw [z0t, z7j hi]
   simp only [if_true, z2v hx', Option.bind_some, zds hm hn ⟨s.2⟩ x.Name [x.Node] h1 h2 (by show s.2.length <= 150; omega) (by simp), kw1 hi (by omega), za2]
   by_cases h : ((devS n s.2 x.Name [x.Node]).1 != 0) = true <;> by_cases h2 : inS x.Demand 0 100000 = true <;> simp [gNL, h, h2, tu1])
  (fun x s s' hc => by
   have := zaq n s.2 x.Name [x.Node]
   split at hc
   ·cases hc
   ·split at hc
    ·cases hc; exact this
    ·cases hc)
  (fun k s i hi => by
   show z0t K n (k + 1) s.1 s.2 i = _
   rw [z0t, z4m hi]; simp)
 obtain ⟨q, hq⟩ := zfy (fun x => chkI n (iLo x)) gNL (fun x (s : NL) => if (devS n s.2 x.Name [x.Node]).1 != 0 then .inl ((devS n s.2 x.Name [x.Node]).1, (⟨(devS n s.2 x.Name [x.Node]).2⟩ : Netmodel_names)) else if inS x.Demand 0 100000 then .inr (gNL (devS n s.2 x.Name [x.Node]).2) else .inl (4, ⟨(devS n s.2 x.Name [x.Node]).2⟩)) (⟨[]⟩ : Netmodel_names)
  (fun x s => ⟨⟨(devS n s x.Name [x.Node]).2⟩, by simp only [chkI, iLo, gNL, apS, Bool.false_and]; by_cases h : ((devS n s x.Name [x.Node]).1 != 0) = true <;> by_cases h2 : inS x.Demand 0 100000 = true <;> simp [h, h2]⟩) n.Loads m
 rw [hq] at h
 exact ⟨q, h⟩
theorem zu2 (F : Fits K n) (hn : n.Nodes.length <= 24) (hx : n.Stores.length <= 32) (m : List zAd) (hmm : m.length <= 110) : ∃ q, z0u K n K ⟨m⟩ m 0 = some (Sum.elim (fun e => .inl (e, q)) (fun m => .inr (gNL m)) (runS (fun x => chkI n (iSt x)) n.Stores m)) := by
 have hm := F.many
 have h : z0u K n K (gNL m).1 (gNL m).2 0 = _ := zdt F hn n.Stores iSt (fun k (s : NL) i => z0u K n k s.1 s.2 i) hx m hmm
  (fun x s => if (devS n s.2 x.Name [x.Node]).1 != 0 then .inl ((devS n s.2 x.Name [x.Node]).1, (⟨(devS n s.2 x.Name [x.Node]).2⟩ : Netmodel_names)) else if inS x.Charge 0 100000 && inS x.Discharge 0 100000 && inS x.Capacity 0 100000 then .inr (gNL (devS n s.2 x.Name [x.Node]).2) else .inl (4, ⟨(devS n s.2 x.Name [x.Node]).2⟩))
  (fun k s i x hx' hI => by
   obtain ⟨h1, h2⟩ := F.st x (zh2 hx')
   have hi := zil hx'
   show z0u K n (k + 1) s.1 s.2 i = _
   rw [z0u, z7j hi]
   simp only [if_true, z2v hx', Option.bind_some, zds hm hn ⟨s.2⟩ x.Name [x.Node] h1 h2 (by show s.2.length <= 150; omega) (by simp), kw1 hi (by omega), za2]
   by_cases h : ((devS n s.2 x.Name [x.Node]).1 != 0) = true <;> by_cases h2 : inS x.Charge 0 100000 = true <;> by_cases h3 : inS x.Discharge 0 100000 = true <;> by_cases h4 : inS x.Capacity 0 100000 = true <;> simp [gNL, h, h2, h3, h4, tu1])
  (fun x s s' hc => by
   have := zaq n s.2 x.Name [x.Node]
   split at hc
   ·cases hc
   ·split at hc
    ·cases hc; exact this
    ·cases hc)
  (fun k s i hi => by
   show z0u K n (k + 1) s.1 s.2 i = _
   rw [z0u, z4m hi]; simp)
 obtain ⟨q, hq⟩ := zfy (fun x => chkI n (iSt x)) gNL (fun x (s : NL) => if (devS n s.2 x.Name [x.Node]).1 != 0 then .inl ((devS n s.2 x.Name [x.Node]).1, (⟨(devS n s.2 x.Name [x.Node]).2⟩ : Netmodel_names)) else if inS x.Charge 0 100000 && inS x.Discharge 0 100000 && inS x.Capacity 0 100000 then .inr (gNL (devS n s.2 x.Name [x.Node]).2) else .inl (4, ⟨(devS n s.2 x.Name [x.Node]).2⟩)) (⟨[]⟩ : Netmodel_names)
  (fun x s => ⟨⟨(devS n s x.Name [x.Node]).2⟩, by simp only [chkI, iSt, gNL, apS, Bool.false_and]; by_cases h : ((devS n s x.Name [x.Node]).1 != 0) = true <;> by_cases h2 : inS x.Charge 0 100000 = true <;> by_cases h3 : inS x.Discharge 0 100000 = true <;> by_cases h4 : inS x.Capacity 0 100000 = true <;> simp [h, h2, h3, h4]⟩) n.Stores m
 rw [hq] at h
 exact ⟨q, h⟩
theorem src (F : Fits K n) (hb : bigS n = false) (m : List zAd) (hmm : m.length <= 80) : ∃ q, z3x K n ⟨m⟩ = some (Sum.elim (fun e => e) (fun _ => 0) (runS (chkI n) (n.Gens.map iGe ++ n.Loads.map iLo ++ n.Stores.map iSt) m), q) := by
 have hb' : n.Nodes.length <= 24 /\ n.Switches.length <= 32 /\ n.Branches.length <= 24 /\ n.Gens.length <= 10 /\ n.Loads.length <= 12 /\ n.Stores.length <= 4 := by
  unfold bigS at hb; simp at hb; omega
 obtain ⟨a1, a2, a3, a4, a5, a6⟩ := hb'
 obtain ⟨q1, h1⟩ := zu0 F a1 (by omega) m (by omega)
 unfold z3x
 simp only [h1, z5l, zah]
 cases r1 : runS (fun x => chkI n (iGe x)) n.Gens m with
 | inl e => exact ⟨q1, by simp [z70, tu2]⟩
 | inr m1 =>
  have b1 := zdu iGe n.Gens m m1 r1
  obtain ⟨q2, h2⟩ := zu1 F a1 (by omega) m1 (by omega)
  simp only [Sum.elim_inr, z70, tu2, Option.bind_some, gNL, h2]
  cases r2 : runS (fun x => chkI n (iLo x)) n.Loads m1 with
  | inl e => exact ⟨q2, by simp [z5l, zah, r2]⟩
  | inr m2 =>
   have b2 := zdu iLo n.Loads m1 m2 r2
   obtain ⟨q3, h3⟩ := zu2 F a1 (by omega) m2 (by omega)
   simp only [Sum.elim_inr, Option.bind_some, gNL, h3]
   cases r3 : runS (fun x => chkI n (iSt x)) n.Stores m2 with
   | inl e => exact ⟨q3, by simp [z5l, zah, r2, r3]⟩
   | inr m3 => exact ⟨⟨m3⟩, by simp [gNL, z5l, zah, r2, r3]⟩
theorem zlu (K : Nat) (n : Network) : z4o K n = some (if bigS n then 2 else 0) := by
 unfold z4o bigS
 by_cases a1 : (n.Nodes.length : Int) > 24 <;> by_cases a2 : (n.Switches.length : Int) > 32 <;> by_cases a3 : (n.Branches.length : Int) > 24 <;> by_cases a4 : (n.Gens.length : Int) > 10 <;> by_cases a5 : (n.Loads.length : Int) > 12 <;> by_cases a6 : (n.Stores.length : Int) > 4 <;>
  simp [a1, a2, a3, a4, a5, a6, tu1] <;> omega
theorem zhx (n : Network) : ∀ (xs : List zAd) (m m' : List zAd), runS chkN xs m = .inr m' -> m'.length <= m.length + xs.length
 | [], m, m', h => by cases h; simp
 | x :: xs, m, m', h => by
  simp only [runS] at h
  cases hq : chkN x m with
  | inl e => rw [hq] at h; cases h
  | inr m1 =>
   rw [hq] at h
   have h1 := zhx n xs m1 m' h
   have h2 : m1.length <= m.length + 1 := by
    unfold chkN at hq
    have h3 := zfx m x
    split at hq
    ·cases hq
    ·cases hq; exact h3
   simp; omega
theorem zim (F : Fits K n) : z4p K n = some (netS n) := by
 unfold z4p netS
 rw [zlu]
 cases hb : bigS n with
 | true => simp
 | false =>
 have hb' : n.Nodes.length <= 24 /\ n.Switches.length <= 32 /\ n.Branches.length <= 24 /\ n.Gens.length <= 10 /\ n.Loads.length <= 12 /\ n.Stores.length <= 4 := by
  unfold bigS at hb; simp at hb; omega
 obtain ⟨a1, a2, a3, a4, a5, a6⟩ := hb'
 simp only [Option.bind_some, ztx F a1]
 cases r0 : runS chkN n.Nodes [] with
 | inl e => simp [z70, tu1]
 | inr m =>
  have b0 := zhx n n.Nodes [] m r0
  simp only [Sum.elim_inr, z70, tu1, tu2, Option.bind_some, gNL, zty F a1 (by omega) m (by simp at b0; omega), z9s, List.append_assoc, z5l (chkI n) (n.Switches.map iSw), z5l (chkI n) (n.Branches.map iBr)]
  simp only [zah (chkI n) iSw]
  cases r1 : runS (fun x => chkI n (iSw x)) n.Switches m with
  | inl e => simp
  | inr m1 =>
   have b1 := zdu iSw n.Switches m m1 r1
   simp only [Sum.elim_inr, Option.bind_some, gNL, ztz F a1 (by omega) m1 (by simp at b0; omega), z5l (chkI n) (n.Branches.map iBr), zah (chkI n) iBr]
   cases r2 : runS (fun x => chkI n (iBr x)) n.Branches m1 with
   | inl e => simp
   | inr m2 =>
    have b2 := zdu iBr n.Branches m1 m2 r2
    obtain ⟨q, h3⟩ := src F hb m2 (by simp at b0; omega)
    simp only [Sum.elim_inr, Option.bind_some, gNL, h3, List.append_assoc]
    cases runS (chkI n) (n.Gens.map iGe ++ (n.Loads.map iLo ++ n.Stores.map iSt)) m2 <;> simp
theorem zqi (acc : List Item) (ha : acc.length <= 100) (hx : n.Switches.length <= 32) (hK : 200 < K) : z3n K n K acc 0 = some (acc ++ n.Switches.map iSw) :=
 zb4 n.Switches (fun k acc i => z3n K n k acc i) iSw acc
  (fun k acc' i x hx' hl => by
   have hi := zil hx'
   have h9 : acc'.length + 1 <= 16777216 := by omega
   show z3n K n (k + 1) acc' i = _
   rw [z3n, z7j hi]
   simp only [if_true, z2v hx', Option.bind_some, kw1 hi (by omega), zjq, z9t, List.length_cons, List.length_nil]
   simp [iSw, tu1, h9])
  (fun k acc i hi => by
   show z3n K n (k + 1) acc i = _
   rw [z3n, z4m hi]; simp) K (by omega)
theorem zqj (acc : List Item) (ha : acc.length <= 100) (hx : n.Branches.length <= 32) (hK : 200 < K) : z3o K n K acc 0 = some (acc ++ n.Branches.map iBr) :=
 zb4 n.Branches (fun k acc i => z3o K n k acc i) iBr acc
  (fun k acc' i x hx' hl => by
   have hi := zil hx'
   have h9 : acc'.length + 1 <= 16777216 := by omega
   show z3o K n (k + 1) acc' i = _
   rw [z3o, z7j hi]
   simp only [if_true, z2v hx', Option.bind_some, kw1 hi (by omega), zjq, z9t, List.length_cons, List.length_nil]
   by_cases h2 : brS x = true <;> simp [iBr, tu1, h9, h2])
  (fun k acc i hi => by
   show z3o K n (k + 1) acc i = _
   rw [z3o, z4m hi]; simp) K (by omega)
theorem zqk (acc : List Item) (ha : acc.length <= 100) (hx : n.Gens.length <= 32) (hK : 200 < K) : z3p K n K acc 0 = some (acc ++ n.Gens.map iGe) :=
 zb4 n.Gens (fun k acc i => z3p K n k acc i) iGe acc
  (fun k acc' i x hx' hl => by
   have hi := zil hx'
   have h9 : acc'.length + 1 <= 16777216 := by omega
   show z3p K n (k + 1) acc' i = _
   rw [z3p, z7j hi]
   simp only [if_true, z2v hx', Option.bind_some, kw1 hi (by omega), zjq, z9t, List.length_cons, List.length_nil]
   by_cases h2 : inS x.Least 0 100000 = true <;> by_cases h3 : inS x.Most x.Least 100000 = true <;> by_cases h4 : inS x.Ramp 0 100000 = true <;> simp [iGe, tu1, h9, h2, h3, h4])
  (fun k acc i hi => by
   show z3p K n (k + 1) acc i = _
   rw [z3p, z4m hi]; simp) K (by omega)
theorem zql (acc : List Item) (ha : acc.length <= 100) (hx : n.Loads.length <= 32) (hK : 200 < K) : z3q K n K acc 0 = some (acc ++ n.Loads.map iLo) :=
 zb4 n.Loads (fun k acc i => z3q K n k acc i) iLo acc
  (fun k acc' i x hx' hl => by
   have hi := zil hx'
   have h9 : acc'.length + 1 <= 16777216 := by omega
   show z3q K n (k + 1) acc' i = _
   rw [z3q, z7j hi]
   simp only [if_true, z2v hx', Option.bind_some, kw1 hi (by omega), zjq, z9t, List.length_cons, List.length_nil]
   by_cases h2 : inS x.Demand 0 100000 = true <;> simp [iLo, tu1, h9, h2])
  (fun k acc i hi => by
   show z3q K n (k + 1) acc i = _
   rw [z3q, z4m hi]; simp) K (by omega)
theorem zqm (acc : List Item) (ha : acc.length <= 100) (hx : n.Stores.length <= 32) (hK : 200 < K) : z3r K n K acc 0 = some (acc ++ n.Stores.map iSt) :=
 zb4 n.Stores (fun k acc i => z3r K n k acc i) iSt acc
  (fun k acc' i x hx' hl => by
   have hi := zil hx'
   have h9 : acc'.length + 1 <= 16777216 := by omega
   show z3r K n (k + 1) acc' i = _
   rw [z3r, z7j hi]
   simp only [if_true, z2v hx', Option.bind_some, kw1 hi (by omega), zjq, z9t, List.length_cons, List.length_nil]
   by_cases h2 : inS x.Charge 0 100000 = true <;> by_cases h3 : inS x.Discharge 0 100000 = true <;> by_cases h4 : inS x.Capacity 0 100000 = true <;> simp [iSt, tu1, h9, h2, h3, h4])
  (fun k acc i hi => by
   show z3r K n (k + 1) acc i = _
   rw [z3r, z4m hi]; simp) K (by omega)
theorem znw (hb : bigS n = false) (hK : 200 < K) : zbb K n = some (z9s n) := by
 have hb' : n.Nodes.length <= 24 /\ n.Switches.length <= 32 /\ n.Branches.length <= 24 /\ n.Gens.length <= 10 /\ n.Loads.length <= 12 /\ n.Stores.length <= 4 := by
  unfold bigS at hb; simp at hb; omega
 obtain ⟨a1, a2, a3, a4, a5, a6⟩ := hb'
 unfold zbb z9s
 rw [zqi [] (by simp) (by omega) hK]
 simp only [Option.bind_some, tu1, List.nil_append]
 rw [zqj _ (by simp; omega) (by omega) hK]
 simp only [Option.bind_some]
 rw [zqk _ (by simp; omega) (by omega) hK]
 simp only [Option.bind_some]
 rw [zql _ (by simp; omega) (by omega) hK]
 simp only [Option.bind_some]
 rw [zqm _ (by simp; omega) (by omega) hK]
 simp
def OkI (K : Nat) (x : Item) : Prop := Sh K x.name /\ x.nodes.length <= 2 /\ (x.apart = true -> x.nodes.length = 2)
theorem okI (F : Fits K n) : ∀ x ∈ z9s n, OkI K x := by
 intro x hx
 unfold z9s at hx
 simp only [List.mem_append, List.mem_map] at hx
 rcases hx with (((⟨y, hy, rfl⟩ | ⟨y, hy, rfl⟩) | ⟨y, hy, rfl⟩) | ⟨y, hy, rfl⟩) | ⟨y, hy, rfl⟩
 ·exact ⟨F.sw y hy, by simp [iSw], by simp [iSw]⟩
 ·exact ⟨F.br y hy, by simp [iBr], by simp [iBr]⟩
 ·exact ⟨F.ge y hy, by simp [iGe], by simp [iGe]⟩
 ·exact ⟨F.lo y hy, by simp [iLo], by simp [iLo]⟩
 ·exact ⟨F.st y hy, by simp [iSt], by simp [iSt]⟩
theorem zu3 (F : Fits K n) (hn : n.Nodes.length <= 24) : z1z K n K [] 0 = some (runS chkN n.Nodes []) := by
 have hm := F.many
 exact z7r n.Nodes (fun k s i => z1z K n k s i) chkN (fun s i => s.length <= i)
  (fun k s i x hx hI => by
   obtain ⟨h1, h2⟩ := F.nodes x (zh2 hx)
   have hi := zil hx
   show z1z K n (k + 1) s i = _
   rw [z1z, z7j hi]
   simp only [if_true, z2v hx, Option.bind_some, zlt hm s x h1 h2 (by omega), kw1 hi (by omega), chkN]
   by_cases h : ((addS s x).1 != 0) = true <;> simp [h])
  (fun s i x s' hx hI hc => by
   have := zfx s x
   unfold chkN at hc
   split at hc
   ·cases hc
   ·cases hc; omega)
  (fun k s i hi => by
   show z1z K n (k + 1) s i = _
   rw [z1z, z4m hi]; simp) K [] (by omega) (by simp)
theorem zu4 (F : Fits K n) (hb : bigS n = false) (m : List zAd) (hmm : m.length <= 24) : z20 K (z9s n) n K m 0 = some (runS (chkI n) (z9s n) m) := by
 have hb' : n.Nodes.length <= 24 /\ n.Switches.length <= 32 /\ n.Branches.length <= 24 /\ n.Gens.length <= 10 /\ n.Loads.length <= 12 /\ n.Stores.length <= 4 := by
  unfold bigS at hb; simp at hb; omega
 obtain ⟨a1, a2, a3, a4, a5, a6⟩ := hb'
 have hl : (z9s n).length <= 82 := by unfold z9s; simp; omega
 have hm := F.many
 exact z7r (z9s n) (fun k s i => z20 K (z9s n) n k s i) (chkI n) (fun s i => s.length <= 24 + i)
  (fun k s i x hx hI => by
   obtain ⟨⟨h1, h2⟩, h3, h4⟩ := okI F x (zh2 hx)
   have hi := zil hx
   show z20 K (z9s n) n (k + 1) s i = _
   rw [z20, z7j hi]
   simp only [if_true, z2v hx, Option.bind_some, zlt hm s x.name h1 h2 (by omega), kw1 hi (by omega), chkI, devS, ztc, zqh x (show n.Nodes.length <= 1048576 by omega) (show n.Nodes.length < K by omega) (show x.nodes.length < K by omega) (by omega)]
   by_cases hA : ((addS s x.name).1 != 0) = true
   ·simp [hA]
   ·by_cases hE : x.nodes.all (hasS n.Nodes) = true
    ·by_cases hp : x.apart = true
     ·have h5 := h4 hp
      match hnd : x.nodes, h5 with
      | [a, b], _ =>
       rw [hnd] at hE
       by_cases hs : sEq a b = true <;> by_cases hB : x.bad = true <;> simp [hA, hE, hp, hs, hB, hnd, apS, z70, tu0, tu1, idx]
     ·by_cases hB : x.bad = true <;> simp [hA, hE, hp, hB, apS, z70, tu0, tu1]
    ·simp [hA, hE, z70, tu1, tu0])
  (fun s i x s' hx hI hc => by
   have h3 := zaq n s x.name x.nodes
   unfold chkI at hc
   split at hc
   ·cases hc
   ·split at hc
    ·cases hc
    ·split at hc
     ·cases hc
     ·cases hc; omega)
  (fun k s i hi => by
   show z20 K (z9s n) n (k + 1) s i = _
   rw [z20, z4m hi]; simp) K m (by omega) hmm
theorem zs5 (F : Fits K n) : z4s K n = some (netS n) := by
 unfold z4s netS
 have hz : (if (decide ((List.length n.Nodes : Int) > 24)) = true then some true else (if (decide ((List.length n.Switches : Int) > 32)) = true then some true else (if (decide ((List.length n.Branches : Int) > 24)) = true then some true else (if (decide ((List.length n.Gens : Int) > 10)) = true then some true else (if (decide ((List.length n.Loads : Int) > 12)) = true then some true else some (decide ((List.length n.Stores : Int) > 4))))))) = some (bigS n) := by
  unfold bigS
  by_cases a1 : (n.Nodes.length : Int) > 24 <;> by_cases a2 : (n.Switches.length : Int) > 32 <;> by_cases a3 : (n.Branches.length : Int) > 24 <;> by_cases a4 : (n.Gens.length : Int) > 10 <;> by_cases a5 : (n.Loads.length : Int) > 12 <;> by_cases a6 : (n.Stores.length : Int) > 4 <;> simp [a1, a2, a3, a4, a5, a6] <;> omega
 rw [hz]
 simp only [Option.bind_some, tu1]
 cases hb : bigS n with
 | true => simp
 | false =>
 have hb' : n.Nodes.length <= 24 := by unfold bigS at hb; simp at hb; omega
 simp only [zu3 F hb', Bool.false_eq_true, if_false, z70, Option.bind_some]
 cases r0 : runS chkN n.Nodes [] with
 | inl e => simp
 | inr m =>
  have b0 := zhx n n.Nodes [] m r0
  simp only [znw hb F.many, Option.bind_some, zu4 F hb m (by simp at b0; omega), Sum.elim_inr]
  cases runS (chkI n) (z9s n) m <;> simp
end Go.Am.Tryz
/- Numbers: digits in a base, the least one first; decimal texts. Plain, no program. -/
namespace Go.Am
open Go
def valB (B : Int) : List Int -> Int
 | [] => 0
 | d :: l => d + B * valB B l
def DigB (B : Int) (l : List Int) : Prop := ∀ d ∈ l, 0 <= d /\ d < B
theorem DigB.nil (B : Int) : DigB B [] := fun d h => by simp at h
theorem DigB.cons {B d : Int} {l : List Int} (h : DigB B (d :: l)) : (0 <= d /\ d < B) /\ DigB B l := ⟨h d (by simp), fun x hx => h x (by simp [hx])⟩
theorem DigB.app {B : Int} {l m : List Int} (h : DigB B l) (k : DigB B m) : DigB B (l ++ m) := fun d hd => by
 rcases List.mem_append.1 hd with hd | hd
 ·exact h d hd
 ·exact k d hd
theorem z6x (B : Int) : ∀ (l m : List Int), valB B (l ++ m) = valB B l + B ^ l.length * valB B m
 | [], m => by simp [valB]
 | d :: l, m => by
  simp only [List.cons_append, valB, z6x B l m, List.length_cons, Int.pow_succ]
  rw [Int.mul_add, <- Int.mul_assoc, Int.mul_comm B (B ^ l.length), Int.add_assoc]
theorem z1l {B : Int} (hB : 0 < B) : ∀ (l : List Int), DigB B l -> 0 <= valB B l
 | [], _ => Int.le_refl _
 | d :: l, h => by
  have h1 := (h.cons).1
  have h2 := z1l hB l h.cons.2
  have := Int.mul_nonneg (Int.le_of_lt hB) h2
  simp only [valB]; omega
theorem z65 {B : Int} (hB : 0 < B) : ∀ (l : List Int), DigB B l -> valB B l < B ^ l.length
 | [], _ => by simp [valB]
 | d :: l, h => by
  have h1 := (h.cons).1
  have h2 := z65 hB l h.cons.2
  have h3 : B * (valB B l + 1) <= B * B ^ l.length := Int.mul_le_mul_of_nonneg_left (by omega) (Int.le_of_lt hB)
  rw [Int.mul_add, Int.mul_one] at h3
  simp only [valB, List.length_cons, Int.pow_succ]
  rw [Int.mul_comm (B ^ l.length) B]
  omega
def CanB (B : Int) (l : List Int) : Prop := DigB B l /\ l.getLast? ≠ some 0
theorem CanB.tail {B d : Int} {l : List Int} (h : CanB B (d :: l)) : CanB B l := by
 refine ⟨h.1.cons.2, fun e => h.2 ?_⟩
 cases l with
 | nil => simp at e
 | cons x l => rw [List.getLast?_cons_cons]; exact e
theorem zdv {B : Int} (hB : 1 < B) : ∀ (l : List Int), CanB B l -> l ≠ [] -> 0 < valB B l
 | [], _, h => absurd rfl h
 | d :: l, h, _ => by
  have h1 := h.1.cons.1
  cases l with
  | nil =>
   have : d ≠ 0 := fun e => h.2 (by simp [e])
   simp only [valB]; omega
  | cons x l =>
   have h2 := zdv hB (x :: l) h.tail (by simp)
   have h3 : B * 1 <= B * valB B (x :: l) := Int.mul_le_mul_of_nonneg_left (by omega) (by omega)
   simp only [valB] at h2 h3 ⊢; omega
theorem zqn {B d e x y : Int} (hd : 0 <= d /\ d < B) (he : 0 <= e /\ e < B) (h : d + B * x = e + B * y) : d = e /\ x = y := by
 have h1 : x = y := by
  rcases Int.lt_trichotomy x y with h2 | h2 | h2
  ·have : B * (x + 1) <= B * y := Int.mul_le_mul_of_nonneg_left (by omega) (by omega)
   rw [Int.mul_add, Int.mul_one] at this; omega
  ·exact h2
  ·have : B * (y + 1) <= B * x := Int.mul_le_mul_of_nonneg_left (by omega) (by omega)
   rw [Int.mul_add, Int.mul_one] at this; omega
 subst h1
 exact ⟨by omega, rfl⟩
theorem zqo {B : Int} (hB : 1 < B) : ∀ (l m : List Int), CanB B l -> CanB B m -> valB B l = valB B m -> l = m
 | [], [], _, _, _ => rfl
 | [], e :: m, _, h2, h => by
  have := zdv hB (e :: m) h2 (by simp)
  rw [<- h] at this; simp [valB] at this
 | d :: l, [], h1, _, h => by
  have := zdv hB (d :: l) h1 (by simp)
  rw [h] at this; simp [valB] at this
 | d :: l, e :: m, h1, h2, h => by
  obtain ⟨rfl, h3⟩ := zqn h1.1.cons.1 h2.1.cons.1 h
  rw [zqo hB l m h1.tail h2.tail h3]
def digT (c : Int) : Bool := decide (48 <= c) && decide (c <= 57)
def z6y (s : zAd) : List Int := ((z04 s).map (· - 48)).reverse
def numT (s : zAd) : Int := valB 10 (z6y s)
def CanT (s : zAd) : Prop := s.size ≠ 0 /\ (z04 s).all digT = true /\ ((z04 s).head? = some 48 -> s.size = 1)
theorem z52 {a b : zAd} (h : z04 a = z04 b) : a = b := by
 unfold z04 at h
 have h1 : a.data.toList = b.data.toList := by
  have : Function.Injective fun b : UInt8 => (b.toNat : Int) := fun x y h => by
   have : x.toNat = y.toNat := by have h' : (x.toNat : Int) = (y.toNat : Int) := h; omega
   exact UInt8.toNat_inj.1 this
  exact List.map_inj_right (fun x y h => this h) |>.1 h
 cases a; cases b
 congr 1
 exact Array.toList_inj.1 h1
theorem z8n {s : zAd} (h : (z04 s).all digT = true) : DigB 10 (z6y s) := by
 intro d hd
 unfold z6y at hd
 rw [List.mem_reverse, List.mem_map] at hd
 obtain ⟨c, hc, rfl⟩ := hd
 have := List.all_eq_true.1 h c hc
 simp only [digT, Bool.and_eq_true, decide_eq_true_eq] at this
 omega
theorem z6k (s : zAd) : (z6y s).length = s.size := by
 unfold z6y
 rw [List.length_reverse, List.length_map, z02]
theorem zin {a b : zAd} (h : z6y a = z6y b) : a = b := by
 unfold z6y at h
 have h1 := List.reverse_inj.1 h
 exact z52 (List.map_inj_right (fun x y h => by omega) |>.1 h1)
theorem za3 {s : zAd} (h : CanT s) (h0 : (z04 s).head? = some 48) : z6y s = [0] := by
 have h1 := h.2.2 h0
 have hl := z02 s
 rw [h1] at hl
 match hb : z04 s, hl with
 | [c], _ => rw [hb] at h0; simp at h0; subst h0; simp [z6y, hb]
theorem zfz {s : zAd} (h : CanT s) (h0 : (z04 s).head? ≠ some 48) : CanB 10 (z6y s) := by
 refine ⟨z8n h.2.1, fun e => h0 ?_⟩
 unfold z6y at e
 rw [List.getLast?_reverse, List.head?_map] at e
 cases hb : (z04 s).head? with
 | none => rw [hb] at e; cases e
 | some c => rw [hb] at e; simp at e; congr 1; omega
theorem zar {a b : zAd} (ha : CanT a) (hb : CanT b) (h : numT a = numT b) : a = b := by
 have pos : ∀ s : zAd, CanT s -> (z04 s).head? ≠ some 48 -> 0 < numT s := fun s hs h0 => zdv (by omega) _ (zfz hs h0) (fun e => by
  have := z6k s
  rw [e] at this
  exact hs.1 this.symm)
 by_cases h1 : (z04 a).head? = some 48 <;> by_cases h2 : (z04 b).head? = some 48
 ·exact zin (by rw [za3 ha h1, za3 hb h2])
 ·have := pos b hb h2
  unfold numT at h this
  rw [za3 ha h1] at h
  simp [valB] at h; omega
 ·have := pos a ha h1
  unfold numT at h this
  rw [za3 hb h2] at h
  simp [valB] at h; omega
 ·exact zin (zqo (by omega) _ _ (zfz ha h1) (zfz hb h2) h)
theorem z3u (a : zAd) (i j : Nat) : z04 (a.extract i j) = ((z04 a).drop i).take (j - i) := by
 unfold z04
 rw [ByteArray.data_extract, Array.toList_extract]
 simp [List.extract, List.map_drop, List.map_take]
theorem z28 (a b : zAd) : z04 (a ++ b) = z04 a ++ z04 b := by
 unfold z04
 rw [ByteArray.data_append, Array.toList_append, List.map_append]
theorem zjs (xs : List Int) (h : ∀ x ∈ xs, 0 <= x /\ x <= 255) : z04 (strOfNums xs) = xs := by
 unfold z04
 rw [strOfNums_data, List.map_map]
 conv => rhs; rw [<- List.map_id xs]
 apply List.map_congr_left
 intro x hx
 have := h x hx
 show ((UInt8.ofNat x.toNat).toNat : Int) = x
 rw [UInt8.toNat_ofNat']
 omega
theorem zg0 {s : zAd} {c : Int} {l : List Int} (h : z04 s = c :: l) : ∃ t, ssl s 1 (s.size : Int) = some t /\ z04 t = l /\ t.size = l.length := by
 have hn := z02 s
 rw [h] at hn
 simp at hn
 refine ⟨s.extract 1 s.size, ?_, ?_, ?_⟩
 ·unfold ssl
  rw [if_pos (by omega)]
  simp
 ·rw [z3u, h]
  simp
  exact List.take_of_length_le (by omega)
 ·rw [<- z02, z3u, h]
  simp
  omega
theorem znx {s t : zAd} {c : Int} (h : z04 s = c :: z04 t) : numT s = numT t + 10 ^ t.size * (c - 48) := by
 unfold numT z6y
 rw [h, List.map_cons, List.reverse_cons, z6x]
 simp [valB, z02]
end Go.Am
/- Graphs: connected parts, their numbers, closure of a matrix, ways. Plain, no program. -/
namespace Go.Am
open Go
def Edg (l : List (Int × Int)) (U : Nat -> Bool) (a b : Nat) : Prop := ∃ k, k < l.length /\ U k = true /\ (l.getD k (0, 0) = ((a : Int), (b : Int)) \/ l.getD k (0, 0) = ((b : Int), (a : Int)))
inductive Con (l : List (Int × Int)) (U : Nat -> Bool) : Nat -> Nat -> Prop
 | refl (a : Nat) : Con l U a a
 | tail {a b c : Nat} : Con l U a b -> Edg l U b c -> Con l U a c
structure Outer (l : List (Int × Int)) (U : Nat -> Bool) (n : Nat) (cs : List Int) (m s : Nat) : Prop where
 len : cs.length = n
 rng : ∀ i < n, -1 <= cs.getD i 0 /\ cs.getD i 0 < m
 done : ∀ i < s, i < n -> 0 <= cs.getD i 0
 cls : ∀ i j, i < n -> j < n -> 0 <= cs.getD i 0 -> (cs.getD i 0 = cs.getD j 0 ↔ Con l U i j)
 last : 0 < m -> ∃ j < s, j < n /\ cs.getD j 0 = (m : Int) - 1
 rgs : ∀ i < n, 0 < cs.getD i 0 -> ∃ j < i, cs.getD j 0 = cs.getD i 0 - 1
 few : m <= s
structure Mid (l : List (Int × Int)) (U : Nat -> Bool) (n : Nat) (base : List Int) (m s : Nat) (cs : List Int) : Prop where
 len : cs.length = n
 own : ∀ i < n, (cs.getD i 0 = m /\ base.getD i 0 = -1 /\ Con l U s i) \/ cs.getD i 0 = base.getD i 0
 start : cs.getD s 0 = m
theorem z8o {cs : List Int} {i j : Nat} {v : Int} (hi : i < cs.length) : (cs.set i v).getD j 0 = if j = i then v else cs.getD j 0 := by
 rw [zAb, List.getElem?_set]
 by_cases h : i = j
 ·subst h; simp [hi]
 ·rw [if_neg h, if_neg (fun e => h e.symm), zAb]
theorem Edg.symm {l : List (Int × Int)} {U : Nat -> Bool} {a b : Nat} (h : Edg l U a b) : Edg l U b a := by
 obtain ⟨k, h1, h2, h3⟩ := h
 exact ⟨k, h1, h2, h3.symm⟩
theorem Con.trans {l : List (Int × Int)} {U : Nat -> Bool} {a b c : Nat} (h : Con l U a b) (k : Con l U b c) : Con l U a c := by
 induction k with
 | refl => exact h
 | tail _ e ih => exact .tail ih e
theorem Con.symm {l : List (Int × Int)} {U : Nat -> Bool} {a b : Nat} (h : Con l U a b) : Con l U b a := by
 induction h with
 | refl => exact .refl _
 | tail _ e ih => exact (Con.tail (.refl _) e.symm).trans ih
structure EqvOn (M : Nat -> Nat -> Bool) (n : Nat) : Prop where
 refl : ∀ a < n, M a a = true
 symm : ∀ a b, a < n -> b < n -> M a b = true -> M b a = true
 trans : ∀ a b c, a < n -> b < n -> c < n -> M a b = true -> M b c = true -> M a c = true
structure NumOk (M : Nat -> Nat -> Bool) (cs : List Int) (m i : Nat) : Prop where
 len : cs.length = i
 rng : ∀ a < i, 0 <= cs.getD a 0 /\ cs.getD a 0 < m
 cls : ∀ a b, a < i -> b < i -> (cs.getD a 0 = cs.getD b 0 ↔ M a b = true)
 last : 0 < m -> ∃ a < i, cs.getD a 0 = (m : Int) - 1
 rgs : ∀ a < i, 0 < cs.getD a 0 -> ∃ b < a, cs.getD b 0 = cs.getD a 0 - 1
 few : m <= i
structure WOk (l : List (Int × Int)) (U : Nat -> Bool) (n : Nat) (M : Nat -> Nat -> Bool) (m : Nat) : Prop where
 sound : ∀ a b, a < n -> b < n -> M a b = true -> Con l U a b
 refl : ∀ a < n, M a a = true
 edge : ∀ a b, a < n -> b < n -> Edg l U a b -> M a b = true
 tr : ∀ c < m, ∀ a b, a < n -> b < n -> M a c = true -> M c b = true -> M a b = true
def Wk (l : List (Int × Int)) (U : Nat -> Bool) (to : Nat) : Nat -> Nat -> Prop
 | 0, v => v = to
 | k + 1, v => ∃ w, Edg l U v w /\ Wk l U to k w
structure FarOk (l : List (Int × Int)) (U : Nat -> Bool) (n to : Nat) (fs : List Int) (d : Nat) : Prop where
 len : fs.length = n
 rng : ∀ v < n, -1 <= fs.getD v 0
 fnd : ∀ v < n, ∀ k : Nat, fs.getD v 0 = k -> k <= d /\ Wk l U to k v /\ ∀ j < k, ¬ Wk l U to j v
 nof : ∀ v < n, fs.getD v 0 = -1 -> ∀ j ≤ d, ¬ Wk l U to j v
structure Rnd (l : List (Int × Int)) (U : Nat -> Bool) (n to : Nat) (fs gs : List Int) (d : Nat) : Prop where
 len : gs.length = n
 old : ∀ v < n, gs.getD v 0 = fs.getD v 0 \/ (fs.getD v 0 = -1 /\ gs.getD v 0 = (d : Int) + 1 /\ Wk l U to (d + 1) v)
def neg (n : Nat) (fs : List Int) : Nat := ((List.range n).filter fun v => fs.getD v 0 == -1).length
theorem zhy {S R : Type} (n : Nat) (l : Nat -> S -> Int -> Option R) (I : S -> Nat -> Prop) (Q : R -> Prop)
  (h : ∀ k s (i : Nat), i < n -> I s i -> (∃ r, l (k + 1) s (i : Int) = some r /\ Q r) \/ ∃ s', I s' (i + 1) /\ l (k + 1) s (i : Int) = l k s' ((i + 1 : Nat) : Int))
  (h0 : ∀ k s (i : Nat), i = n -> I s i -> ∃ r, l (k + 1) s (i : Int) = some r /\ Q r) : ∀ k s, n < k -> I s 0 -> ∃ r, l k s 0 = some r /\ Q r := by
 have key : ∀ d k s (i : Nat), n - i = d -> i <= n -> d < k -> I s i -> ∃ r, l k s (i : Int) = some r /\ Q r := by
  intro d
  induction d with
  | zero =>
   intro k s i hd hi hk hI
   obtain ⟨k, rfl⟩ : ∃ m, k = m + 1 := ⟨k - 1, by omega⟩
   exact h0 k s i (by omega) hI
  | succ d ih =>
   intro k s i hd hi hk hI
   obtain ⟨k, rfl⟩ : ∃ m, k = m + 1 := ⟨k - 1, by omega⟩
   rcases h k s i (by omega) hI with h1 | ⟨s', h1, h2⟩
   ·exact h1
   ·rw [h2]; exact ih k s' (i + 1) (by omega) (by omega) (by omega) h1
 intro k s hk hI
 exact key n k s 0 (by omega) (Nat.zero_le _) hk hI
theorem zs6 {S R : Type} (l : Nat -> S -> Option R) (I : S -> Prop) (mu : S -> Nat) (Q : R -> Prop)
  (h : ∀ k s, I s -> (∃ r, l (k + 1) s = some r /\ Q r) \/ ∃ s', I s' /\ mu s' < mu s /\ l (k + 1) s = l k s') : ∀ k s, mu s < k -> I s -> ∃ r, l k s = some r /\ Q r := by
 intro k
 induction k with
 | zero => intro s h1; omega
 | succ k ih =>
  intro s h1 hI
  rcases h k s hI with h2 | ⟨s', h2, h3, h4⟩
  ·exact h2
  ·rw [h4]; exact ih s' (by omega) h2
def two (p : Int × Int) : List Int := [p.1, p.2]
theorem zlv {cs : List Int} {a : Nat} (h : a < cs.length) : idx cs (a : Int) = some (cs.getD a 0) := by
 apply z2v
 simp [h, zAb]
end Go.Am
/- Plain lemmas: rules for typed functions over whole numbers; digits set in place; the guess of a digit of a quotient. -/
namespace Go.Am
open Go
theorem z0n {α β : Type} (a : α) (f : α -> Option β) : Option.bind (some a) f = f a := (rfl)
theorem tu0a {β : Type} (g : Option β) (u : Unit) : tu0 g u = g := (rfl)
theorem tu1a {α β : Type} (g : α -> Option β) (a : α) : tu1 g a = g a := (rfl)
theorem tu2a {α1 α2 β : Type} (g : α1 -> α2 -> Option β) (p : α1 × α2) : tu2 g p = g p.1 p.2 := (rfl)
theorem tu3a {α1 α2 α3 β : Type} (g : α1 -> α2 -> α3 -> Option β) (p : α1 × α2 × α3) : tu3 g p = g p.1 p.2.1 p.2.2 := (rfl)
theorem tu4a {α1 α2 α3 α4 β : Type} (g : α1 -> α2 -> α3 -> α4 -> Option β) (p : α1 × α2 × α3 × α4) : tu4 g p = g p.1 p.2.1 p.2.2.1 p.2.2.2 := (rfl)
theorem tu5a {α1 α2 α3 α4 α5 β : Type} (g : α1 -> α2 -> α3 -> α4 -> α5 -> Option β) (p : α1 × α2 × α3 × α4 × α5) : tu5 g p = g p.1 p.2.1 p.2.2.1 p.2.2.2.1 p.2.2.2.2 := (rfl)
theorem lta {α β : Type} (x : α) (f : α -> Option β) : lt x f = f x := (rfl)
theorem zny {α β γ : Type} (a : α) (f : α -> Option γ) (g : β -> Option γ) : z70 (some (.inl a)) f g = f a := (rfl)
theorem zg1 {α β γ : Type} (b : β) (f : α -> Option γ) (g : β -> Option γ) : z70 (some (.inr b)) f g = g b := (rfl)
theorem zuw {α β γ : Type} (a : α) (f : α -> Option γ) (g : β -> Option γ) : outS (.inl a) f g = f a := (rfl)
theorem zux {α β γ : Type} (b : β) (f : α -> Option γ) (g : β -> Option γ) : outS (.inr b) f g = g b := (rfl)
theorem zs7 {α : Type} [BEq α] [LawfulBEq α] {a b : α} : ((a == b) = true) = (a = b) := propext beq_iff_eq
theorem zs8 {a b : Int} : ((a != b) = true) = (a ≠ b) := by simp
theorem k64 {a : Int} (h1 : -9223372036854775808 <= a) (h2 : a <= 9223372036854775807) : z03 .i64 a = a := kw h1 h2
theorem ku64 {a : Int} (h1 : 0 <= a) (h2 : a <= 18446744073709551615) : z03 .u64 a = a := z8f (by simp [z56]; omega)
theorem ku32 {a : Int} (h1 : 0 <= a) (h2 : a <= 4294967295) : z03 .u32 a = a := z8f (by simp [z56]; omega)
theorem ku8 {a : Int} (h1 : 0 <= a) (h2 : a <= 255) : z03 .u8 a = a := z8f (by simp [z56]; omega)
theorem i64w {a : Int} (h1 : -9223372036854775808 <= a) (h2 : a <= 9223372036854775807) : IntKind.wrap .i64 a = a := by rw [<- z8b]; exact k64 h1 h2
theorem u64w {a : Int} (h1 : 0 <= a) (h2 : a <= 18446744073709551615) : IntKind.wrap .u64 a = a := by rw [<- z8b]; exact ku64 h1 h2
theorem u32w {a : Int} (h1 : 0 <= a) (h2 : a <= 4294967295) : IntKind.wrap .u32 a = a := by rw [<- z8b]; exact ku32 h1 h2
theorem u8w {a : Int} (h1 : 0 <= a) (h2 : a <= 255) : IntKind.wrap .u8 a = a := by rw [<- z8b]; exact ku8 h1 h2
theorem idxI {xs : List Int} {j : Int} (h1 : 0 <= j) (h2 : j < (xs.length : Int)) : idx xs j = some (xs.getD j.toNat 0) := by
 unfold idx
 rw [if_neg (by omega), zAb, zAh (by omega)]
 rfl
theorem ztd {s : zAd} {j : Int} (h1 : 0 <= j) (h2 : j < (s.size : Int)) : bidx s j = some ((z04 s).getD j.toNat 0) := by
 rw [zab]; exact idxI h1 (by rw [z02]; exact h2)
theorem lslI {α : Type} {xs : List α} {l h : Int} (h1 : 0 <= l) (h2 : l <= h) (h3 : h <= (xs.length : Int)) : lsl xs l h = some ((xs.drop l.toNat).take (h.toNat - l.toNat)) := by unfold lsl; rw [if_pos ⟨h1, h2, h3⟩]
theorem sslI {s : zAd} {l h : Int} (h1 : 0 <= l) (h2 : l <= h) (h3 : h <= (s.size : Int)) : ssl s l h = some (s.extract l.toNat h.toNat) := by unfold ssl; rw [if_pos ⟨h1, h2, h3⟩]
theorem zu5 {a b : Int} (h : 0 <= a) : Int.tdiv a b = a / b := Int.tdiv_eq_ediv_of_nonneg h
theorem zul {a b : Int} (h : 0 <= a) : Int.tmod a b = a % b := Int.tmod_eq_emod_of_nonneg h
theorem zav {S R : Type} (l : Nat -> S -> Option R) (I : S -> Prop) (mu : S -> Nat) (Q : R -> Prop)
  (h : ∀ k s, I s -> (∃ r, l (k + 1) s = some r /\ Q r) \/ ∃ s', l (k + 1) s = l k s' /\ mu s' < mu s /\ I s') {k : Nat} (s : S) (hk : mu s < k) (hI : I s) : ∃ r, l k s = some r /\ Q r :=
 zs6 l I mu Q (fun k s hs => (h k s hs).imp id fun ⟨s', a, b, c⟩ => ⟨s', c, b, a⟩) k s hk hI
theorem z2u {B : Int} (hB : 0 < B) {x : List Int} (h : DigB B x) (k : Nat) : 0 <= x.getD k 0 /\ x.getD k 0 < B := by
 by_cases hk : k < x.length
 ·rw [zAb, zAh hk]; exact h _ (List.getElem_mem hk)
 ·rw [zAb, List.getElem?_eq_none (by omega)]; exact ⟨Int.le_refl _, hB⟩
theorem z7y (B : Int) : ∀ (l : List Int) (p : Nat) (d : Int), p < l.length -> valB B (l.set p d) = valB B l + B ^ p * (d - l.getD p 0)
 | [], p, d, h => by simp at h
 | x :: l, 0, d, _ => by simp [valB]; omega
 | x :: l, p + 1, d, h => by
  have := z7y B l p d (by simpa using h)
  simp only [List.set_cons_succ, valB, this, List.getD_cons_succ, Int.pow_succ]
  grind
theorem DigB.set {B d : Int} {l : List Int} (h : DigB B l) (p : Nat) (hd : 0 <= d /\ d < B) : DigB B (l.set p d) := fun x hx => by
 rcases List.mem_or_eq_of_mem_set hx with h1 | h1
 ·exact h x h1
 ·subst h1; exact hd
theorem DigB.take {B : Int} {l : List Int} (h : DigB B l) (k : Nat) : DigB B (l.take k) := fun x hx => h x (List.mem_of_mem_take hx)
theorem DigB.drop {B : Int} {l : List Int} (h : DigB B l) (k : Nat) : DigB B (l.drop k) := fun x hx => h x (List.mem_of_mem_drop hx)
theorem DigB.snoc {B d : Int} {l : List Int} (h : DigB B l) (hd : 0 <= d /\ d < B) : DigB B (l ++ [d]) := h.app fun x hx => by simp at hx; omega
theorem z9u (B : Int) (l : List Int) (k : Nat) (hk : k <= l.length) : valB B l = valB B (l.take k) + B ^ k * valB B (l.drop k) := by
 conv => lhs; rw [<- List.take_append_drop k l]
 rw [z6x, List.length_take, Nat.min_eq_left hk]
theorem zbj (B : Int) (n : Nat) : valB B (List.replicate n 0) = 0 := by
 induction n with
 | zero => rfl
 | succ n ih => simp [List.replicate_succ, valB, ih]
theorem DigB.zeros {B : Int} (hB : 0 < B) (n : Nat) : DigB B (List.replicate n 0) := fun x hx => by
 rw [List.mem_replicate] at hx; omega
theorem z49 (B : Int) (x : List Int) (k : Nat) : valB B (x.take (k + 1)) = valB B (x.take k) + B ^ k * x.getD k 0 := by
 by_cases h : k < x.length
 ·have hx : x[k]? = some x[k] := zAh h
  rw [List.take_add_one, hx, z6x, List.length_take, Nat.min_eq_left (by omega), zAb, hx]
  simp [valB]
 ·rw [List.take_of_length_le (by omega), List.take_of_length_le (by omega), zAb, List.getElem?_eq_none (by omega)]
  simp
theorem z8p (B : Int) (x : List Int) (d : Int) : valB B (x ++ [d]) = valB B x + B ^ x.length * d := by rw [z6x]; simp [valB]
theorem zbk (l : List Int) (h : l ≠ []) : ∃ r d, l = r ++ [d] := by
 rcases List.eq_nil_or_concat l with rfl | ⟨r, d, rfl⟩
 ·exact absurd rfl h
 ·exact ⟨r, d, by simp⟩
theorem zlw {B : Int} (hB : 1 < B) {l : List Int} (h : CanB B l) (h0 : l ≠ []) : B ^ (l.length - 1) <= valB B l := by
 obtain ⟨r, d, rfl⟩ := zbk l h0
 have hd : d ≠ 0 := fun e => h.2 (by simp [e])
 have hd2 := h.1 d (by simp)
 have hr := z1l (B := B) (by omega) r (fun x hx => h.1 x (by simp [hx]))
 have e : (r ++ [d]).length - 1 = r.length := by simp
 rw [z8p, e]
 have h1 : B ^ r.length * 1 <= B ^ r.length * d := Int.mul_le_mul_of_nonneg_left (by omega) (Int.le_of_lt (Int.pow_pos (by omega)))
 omega
theorem zu6 {B : Int} (hB : 1 < B) {l : List Int} (h : DigB B l) (h0 : l ≠ []) (hv : B ^ (l.length - 1) <= valB B l) : CanB B l := by
 refine ⟨h, fun e => ?_⟩
 obtain ⟨r, d, rfl⟩ := zbk l h0
 have hd : d = 0 := by simpa using e
 have hr := z65 (B := B) (by omega) r (fun x hx => h x (by simp [hx]))
 have e : (r ++ [(0 : Int)]).length - 1 = r.length := by simp
 rw [z8p, hd, e] at hv
 omega
theorem z8a {B : Int} (hB : 0 < B) {i j : Nat} (h : i <= j) : B ^ i <= B ^ j := by
 obtain ⟨m, rfl⟩ : ∃ m, j = i + m := ⟨j - i, by omega⟩
 rw [Int.pow_add]
 have p1 : 0 < B ^ m := Int.pow_pos hB
 have p2 : 0 < B ^ i := Int.pow_pos hB
 have := Int.mul_le_mul_of_nonneg_left (show 1 <= B ^ m by omega) (Int.le_of_lt p2)
 omega
theorem zlx {B : Int} (hB : 1 < B) {l m : List Int} (h : DigB B l) (hm : CanB B m) (hl : l.length < m.length) : valB B l < valB B m := by
 have h1 := z65 (B := B) (by omega) l h
 have h2 := zlw hB hm (by intro e; subst e; simp at hl)
 have h3 : B ^ l.length <= B ^ (m.length - 1) := by
  obtain ⟨j, hj⟩ : ∃ j, m.length - 1 = l.length + j := ⟨m.length - 1 - l.length, by omega⟩
  rw [hj, Int.pow_add]
  have p1 : 0 < B ^ j := Int.pow_pos (by omega)
  have p2 : 0 < B ^ l.length := Int.pow_pos (by omega)
  have := Int.mul_le_mul_of_nonneg_left (show 1 <= B ^ j by omega) (Int.le_of_lt p2)
  omega
 omega
theorem zh3 {B : Int} (hB : 1 < B) {l m : List Int} (h : CanB B l) (hm : DigB B m) (hv : valB B l <= valB B m) : l.length <= m.length := by
 refine Nat.not_lt.1 fun hl => ?_
 have := zlx hB hm h hl
 omega
theorem z4e {a b c : Int} (hc : 0 <= c) (h : a <= b) : c * a <= c * b := Int.mul_le_mul_of_nonneg_left h hc
theorem za8 {a b : Int} (ha : 0 <= a) (hb : 0 <= b) : 0 <= a * b := Int.mul_nonneg ha hb
structure Kn (B P v1 v2 vl top u3 ul q : Int) : Prop where
 B1 : 1 < B
 P0 : 0 < P
 v1p : 1 <= v1
 v2p : 0 <= v2
 v2b : v2 < B
 vlp : 0 <= vl
 vlb : vl < P
 tp : 0 <= top
 u3p : 0 <= u3
 u3b : u3 < B
 ulp : 0 <= ul
 ulb : ul < P
 q0 : 0 <= q
 qB : q < B
 lo : q * (P * (B * v1 + v2) + vl) <= P * (B * top + u3) + ul
 hi : P * (B * top + u3) + ul < (q + 1) * (P * (B * v1 + v2) + vl)
section
variable {B P v1 v2 vl top u3 ul q g r : Int}
theorem Kn.first (h : Kn B P v1 v2 vl top u3 ul q) : q <= top / v1 := by
 obtain ⟨B1, P0, v1p, v2p, v2b, vlp, vlb, tp, u3p, u3b, ulp, ulb, q0, qB, lo, hi⟩ := h
 rw [Int.le_ediv_iff_mul_le (by omega)]
 refine Int.le_of_lt_add_one (Int.not_le.1 fun hc => ?_)
 have a1 := z4e (Int.le_of_lt (Int.mul_pos P0 (show 0 < B by omega))) hc
 have a2 := za8 (Int.le_of_lt P0) (za8 q0 v2p)
 have a3 := za8 q0 vlp
 have a4 := z4e (Int.le_of_lt P0) (show u3 <= B - 1 by omega)
 grind
theorem Kn.down (h : Kn B P v1 v2 vl top u3 ul q) (hr : top = g * v1 + r) (hg : 0 <= g) (hc : g * v2 > r * B + u3) : q < g := by
 obtain ⟨B1, P0, v1p, v2p, v2b, vlp, vlb, tp, u3p, u3b, ulp, ulb, q0, qB, lo, hi⟩ := h
 refine Int.not_le.1 fun hq => ?_
 have hV : 0 <= P * (B * v1 + v2) + vl := by
  have := za8 (Int.le_of_lt P0) (show 0 <= B * v1 + v2 from by have := za8 (show 0 <= B by omega) (show 0 <= v1 by omega); omega)
  omega
 have a1 := z4e hV hq
 have a2 := z4e (Int.le_of_lt P0) (show r * B + u3 + 1 <= g * v2 by omega)
 have a3 := za8 hg vlp
 subst hr
 grind
theorem Kn.exitA (h : Kn B P v1 v2 vl top u3 ul q) (hr : top = g * v1 + r) (hg : 0 <= g) (hB : g < B) (hc : g * v2 <= r * B + u3) : g <= q + 1 := by
 obtain ⟨B1, P0, v1p, v2p, v2b, vlp, vlb, tp, u3p, u3b, ulp, ulb, q0, qB, lo, hi⟩ := h
 refine Int.not_lt.1 fun hq => ?_
 have hV : 0 <= P * (B * v1 + v2) + vl := by
  have := za8 (Int.le_of_lt P0) (show 0 <= B * v1 + v2 from by have := za8 (show 0 <= B by omega) (show 0 <= v1 by omega); omega)
  omega
 have a1 := z4e hV (show q + 1 <= g - 1 by omega)
 have a2 := z4e (Int.le_of_lt P0) hc
 have a3 := z4e hg (show vl <= P - 1 by omega)
 have a4 := z4e (Int.le_of_lt P0) (show g <= B - 1 by omega)
 have a5 := z4e (Int.le_of_lt (Int.mul_pos P0 (show 0 < B by omega))) v1p
 have a6 := za8 (Int.le_of_lt P0) v2p
 subst hr
 grind
theorem Kn.exitB (h : Kn B P v1 v2 vl top u3 ul q) (hr : top = g * v1 + r) (hg : 0 <= g) (hB : g <= B) (hc : B <= r) : g <= q := by
 obtain ⟨B1, P0, v1p, v2p, v2b, vlp, vlb, tp, u3p, u3b, ulp, ulb, q0, qB, lo, hi⟩ := h
 refine Int.not_lt.1 fun hq => ?_
 have hV : 0 <= P * (B * v1 + v2) + vl := by
  have := za8 (Int.le_of_lt P0) (show 0 <= B * v1 + v2 from by have := za8 (show 0 <= B by omega) (show 0 <= v1 by omega); omega)
  omega
 have a1 := z4e hV (show q + 1 <= g by omega)
 have hPg := za8 (Int.le_of_lt P0) hg
 have a2 := z4e hPg (show v2 <= B - 1 by omega)
 have a3 := z4e hg (show vl <= P - 1 by omega)
 have a4 := z4e (Int.le_of_lt (Int.mul_pos P0 (show 0 < B by omega))) (show g <= r by omega)
 have a6 := za8 (Int.le_of_lt P0) u3p
 subst hr
 grind
end
set_option linter.defProp false in
def runL := And.intro @decide_eq_true_eq (And.intro @if_pos.{1} (And.intro @if_neg.{1} (And.intro @if_true.{1} (And.intro @if_false.{1} (And.intro @z0n (And.intro @zs7 (And.intro @zs8 (And.intro @idxI (And.intro @ztd (And.intro @sslI (And.intro @lslI (And.intro @k64 (And.intro @ku64 (And.intro @ku32 (And.intro @ku8 (And.intro @i64w (And.intro @u64w (And.intro @u32w (And.intro @u8w (And.intro @zu5 (And.intro @zul (And.intro @tu0a (And.intro @tu1a (And.intro @tu2a (And.intro @tu3a (And.intro @tu4a (And.intro @tu5a (And.intro @lta (And.intro @zny (And.intro @zg1 (And.intro @zuw (And.intro @zux (And.intro @Int.toNat_natCast (And.intro @List.length_cons.{0} (And.intro @List.length_nil.{0} (And.intro @List.length_set.{0} (And.intro @Int.toNat_zero (@List.replicate_zero.{0}))))))))))))))))))))))))))))))))))))))
end Go.Am
/- Plain law: the program's numbers: digits in the base 10^9. -/
namespace Go.Am.Tryz
open Go Go.Am Go.Proofs
variable {K : Nat}
def NumN (n : Int) (l : List Int) : Prop := CanB 1000000000 l /\ valB 1000000000 l = n
theorem NumN.inj {n : Int} {l m : List Int} (h : NumN n l) (k : NumN n m) : l = m := zqo (B := 1000000000) (by omega) l m h.1 k.1 (h.2.trans k.2.symm)
theorem NumN.nonneg {n : Int} {l : List Int} (h : NumN n l) : 0 <= n := by rw [<- h.2]; exact z1l (by omega) l h.1.1
theorem NumN.nil : NumN 0 [] := ⟨⟨DigB.nil _, by simp⟩, rfl⟩
theorem NumN.pos {n : Int} {l : List Int} (h : NumN n l) (h0 : l ≠ []) : 0 < n := by rw [<- h.2]; exact zdv (by omega) l h.1 h0
theorem NumN.nil_iff {n : Int} {l : List Int} (h : NumN n l) : l = [] ↔ n = 0 := by
 constructor
 ·rintro rfl; exact h.2.symm
 ·intro e; by_cases h0 : l = []
  ·exact h0
  ·have := h.pos h0; omega
theorem NumN.len0 {n : Int} {l : List Int} (h : NumN n l) : l.length = 0 ↔ n = 0 := by rw [<- h.nil_iff, List.length_eq_zero_iff]
theorem NumN.one {n : Int} (h : 0 < n) (h2 : n < 1000000000) : NumN n [n] := ⟨⟨fun d hd => by simp at hd; omega, by simp; omega⟩, by simp [valB]⟩
theorem znz {B : Int} : ∀ n k (l : List Int), l.length = n -> n <= 8000000 -> n < k -> DigB B l -> ∃ t, z3s K k l = some t /\ CanB B t /\ valB B t = valB B l /\ t.length <= l.length := by
 intro n
 induction n with
 | zero =>
  intro k l hl _ hk hd
  obtain ⟨k, rfl⟩ : ∃ m, k = m + 1 := ⟨k - 1, by omega⟩
  have : l = [] := List.length_eq_zero_iff.1 hl
  subst this
  exact ⟨[], by rw [z3s]; simp [tu1], ⟨hd, by simp⟩, rfl, Nat.le_refl _⟩
 | succ n ih =>
  intro k l hl hb hk hd
  obtain ⟨k, rfl⟩ : ∃ m, k = m + 1 := ⟨k - 1, by omega⟩
  obtain ⟨r, d, rfl⟩ : ∃ r d, l = r ++ [d] := zbk l (by intro e; subst e; simp at hl)
  have hr : r.length = n := by simpa using hl
  have e1 : z03 .i64 (((r ++ [d]).length : Int) - 1) = (n : Int) := by rw [hl, kw (by omega) (by omega)]; omega
  have e2 : idx (r ++ [d]) (n : Int) = some d := z2v (by simp [<- hr])
  have e3 : lsl (r ++ [d]) 0 (n : Int) = some r := by
   unfold lsl
   rw [if_pos (by rw [hl]; omega)]
   simp [<- hr]
  have e4 : ((r ++ [d]).length : Int) > 0 := by rw [hl]; omega
  have dr : DigB B r := fun x hx => hd x (by simp [hx])
  rw [z3s, e1, e2, e3, decide_eq_true e4]
  by_cases h0 : d = 0
  ·obtain ⟨t, h1, h2, h3, h4⟩ := ih k r hr (by omega) (by omega) dr
   refine ⟨t, by simp [h0, tu1, h1], h2, ?_, by simp; omega⟩
   rw [h3, z6x, h0]; simp [valB]
  ·exact ⟨r ++ [d], by simp [h0, tu1], ⟨hd, by simpa using h0⟩, rfl, Nat.le_refl _⟩
theorem zdw {B : Int} {l : List Int} (hl : l.length <= 8000000) (hK : 2000000000 < K) (hd : DigB B l) : ∃ t, z2t K l = some t /\ CanB B t /\ valB B t = valB B l /\ t.length <= l.length := by
 obtain ⟨t, h1, h2⟩ := znz (K := K) l.length K l rfl hl (by omega) hd
 exact ⟨t, by unfold z2t; rw [h1]; rfl, h2⟩
theorem zo0 {x y : List Int} (hlen : y.length <= x.length) (hx : x.length <= 4000000) (hK : 2000000000 < K) (dx : DigB 1000000000 x) (dy : DigB 1000000000 y) :
  ∃ r : List Int × Int, z2z K x y K [] 0 0 = some r /\ r.1.length = x.length /\ DigB 1000000000 r.1 /\ (0 <= r.2 /\ r.2 <= 1) /\ valB 1000000000 r.1 + 1000000000 ^ x.length * r.2 = valB 1000000000 x + valB 1000000000 y := by
 refine zav (fun k (s : List Int × Int × Int) => z2z K x y k s.1 s.2.1 s.2.2) (fun s => ∃ i : Nat, s.2.2 = i /\ i <= x.length /\ s.1.length = i /\ DigB 1000000000 s.1 /\ (0 <= s.2.1 /\ s.2.1 <= 1) /\ valB 1000000000 s.1 + 1000000000 ^ i * s.2.1 = valB 1000000000 (x.take i) + valB 1000000000 (y.take i)) (fun s => x.length - s.1.length) _ ?_ (([], 0, 0) : List Int × Int × Int) (by simp; omega) ⟨0, rfl, by omega, rfl, DigB.nil _, ⟨by simp, by simp⟩, by simp [valB]⟩
 rintro k ⟨out, c, _⟩ ⟨i, rfl, h0, h1, h2, h3, h4⟩
 dsimp only at h1 h2 h3 h4 ⊢
 by_cases hi : i < x.length
 ·right
  have ex := z2u (by omega) dx i
  have ey := z2u (by omega) dy i
  have tx := z49 1000000000 x i
  have ty := z49 1000000000 y i
  have hy : ¬ i < y.length -> y.getD i 0 = 0 := fun h => by rw [zAb, List.getElem?_eq_none (by omega)]; rfl
  refine ⟨(out ++ [(x.getD i 0 + c + y.getD i 0) % 1000000000], (x.getD i 0 + c + y.getD i 0) / 1000000000, (i : Int) + 1), ?_, by simp; omega, i + 1, rfl, by omega, by simp [h1], h2.snoc (by omega), by dsimp only; omega, ?_⟩
  ·rw [z2z]
   by_cases h : i < y.length
   ·simp (discharger := omega) only [runL]
   ·have e := hy h
    simp (discharger := omega) only [runL, e, Int.add_zero]
  ·have hm := Int.emod_add_mul_ediv (x.getD i 0 + c + y.getD i 0) 1000000000
   dsimp only
   rw [z8p, h1, tx, ty, Int.pow_succ]
   grind
 ·left
  refine ⟨(out, c), ?_, by dsimp only; omega, h2, h3, ?_⟩
  ·rw [z2z]; simp [hi]
  ·have : i = x.length := by omega
   subst this
   rwa [List.take_of_length_le (Nat.le_refl _), List.take_of_length_le hlen] at h4
theorem zly {x y : List Int} {a b : Int} (hlen : y.length <= x.length) (hx : x.length <= 4000000) (hK : 2000000000 < K) (nx : NumN a x) (ny : NumN b y) :
  ∃ r : List Int × Int, z2z K x y K [] 0 0 = some r /\ r.1.length = x.length /\ NumN (a + b) (if r.2 > 0 then r.1 ++ [r.2] else r.1) := by
 obtain ⟨⟨r, c⟩, h1, h2, h3, h4, h5⟩ := zo0 hlen hx hK nx.1.1 ny.1.1
 dsimp only at h2 h3 h4 h5
 rw [nx.2, ny.2] at h5
 refine ⟨_, h1, h2, ?_⟩
 dsimp only
 by_cases hc : c > 0
 ·rw [if_pos hc]
  have e : c = 1 := by omega
  subst e
  refine ⟨⟨h3.snoc (by omega), by simp⟩, ?_⟩
  rw [z8p, h2]
  exact h5
 ·rw [if_neg hc]
  have e : c = 0 := by omega
  subst e
  rw [Int.mul_zero, Int.add_zero] at h5
  refine ⟨?_, h5⟩
  by_cases h0 : r = []
  ·subst h0; exact ⟨h3, by simp⟩
  ·refine zu6 (by omega) h3 h0 ?_
   have h6 := zlw (B := 1000000000) (by omega) nx.1 (by rintro rfl; exact h0 (List.length_eq_zero_iff.1 h2))
   have h7 := ny.nonneg
   rw [nx.2] at h6
   rw [h2, h5]
   omega
theorem zs9 {x y : List Int} {a b : Int} (hx : x.length <= 4000000) (hy : y.length <= 4000000) (hK : 2000000000 < K) (nx : NumN a x) (ny : NumN b y) : ∃ z, z83 K x y = some z /\ NumN (a + b) z /\ z.length <= max x.length y.length + 1 := by
 unfold z83
 by_cases h : x.length < y.length
 ·obtain ⟨⟨r, c⟩, h1, h2, h3⟩ := zly (K := K) (x := y) (y := x) (by omega) hy (by omega) ny nx
  dsimp only at h2 h3
  rw [Int.add_comm b a] at h3
  by_cases hc : c > 0
  ·rw [if_pos hc] at h3
   exact ⟨r ++ [c], by simp (discharger := omega) only [runL, h1], h3, by simp; omega⟩
  ·rw [if_neg hc] at h3
   exact ⟨r, by simp (discharger := omega) only [runL, h1], h3, by omega⟩
 ·obtain ⟨⟨r, c⟩, h1, h2, h3⟩ := zly (K := K) (x := x) (y := y) (by omega) hx (by omega) nx ny
  dsimp only at h2 h3
  by_cases hc : c > 0
  ·rw [if_pos hc] at h3
   exact ⟨r ++ [c], by simp (discharger := omega) only [runL, h1], h3, by simp; omega⟩
  ·rw [if_neg hc] at h3
   exact ⟨r, by simp (discharger := omega) only [runL, h1], h3, by omega⟩
theorem zo1 {x y : List Int} (hx : x.length <= 4000000) (hK : 2000000000 < K) (dx : DigB 1000000000 x) (dy : DigB 1000000000 y) :
  ∃ r : List Int, z30 K x y K (List.replicate x.length 0) 0 0 = some r /\ r.length = x.length /\ DigB 1000000000 r /\ ∃ c : Int, (0 <= c /\ c <= 1) /\ valB 1000000000 r + valB 1000000000 (y.take x.length) = valB 1000000000 x + 1000000000 ^ x.length * c := by
 refine zav (fun k (s : List Int × Int × Int) => z30 K x y k s.1 s.2.1 s.2.2) (fun s => ∃ i : Nat, s.2.2 = i /\ i <= x.length /\ s.1.length = x.length /\ DigB 1000000000 s.1 /\ (∀ j, i <= j -> s.1.getD j 0 = 0) /\ (0 <= s.2.1 /\ s.2.1 <= 1) /\ valB 1000000000 s.1 + valB 1000000000 (y.take i) = valB 1000000000 (x.take i) + 1000000000 ^ i * s.2.1) (fun s => (x.length - s.2.2 : Int).toNat) _ ?_ ((List.replicate x.length 0, 0, 0) : List Int × Int × Int) (by simp; omega) ⟨0, rfl, by omega, by simp, .zeros (by omega) _, fun j _ => by simp [zAb, List.getElem?_replicate]; split <;> rfl, ⟨by simp, by simp⟩, by simp [valB, zbj]⟩
 rintro k ⟨out, c, _⟩ ⟨i, rfl, h0, h1, h2, hz, h3, h4⟩
 dsimp only at h1 h2 h3 h4 hz ⊢
 by_cases hi : i < x.length
 ·right
  have ex := z2u (by omega) dx i
  have ey := z2u (by omega) dy i
  have tx := z49 1000000000 x i
  have ty := z49 1000000000 y i
  have hy : ¬ i < y.length -> y.getD i 0 = 0 := fun h => by rw [zAb, List.getElem?_eq_none (by omega)]; rfl
  have hset := fun d => z7y 1000000000 out i d (by omega)
  have hgs := fun d j => z8o (cs := out) (i := i) (j := j) (v := d) (by omega)
  have hz0 := hz i (Nat.le_refl _)
  by_cases hn : x.getD i 0 - c - y.getD i 0 < 0
  ·refine ⟨(out.set i (x.getD i 0 - c - y.getD i 0 + 1000000000), 1, (i : Int) + 1), ?_, by dsimp only; omega, i + 1, rfl, by omega, by simp [h1], h2.set _ (by omega), fun j hj => by rw [hgs, if_neg (by omega)]; exact hz j (by omega), by simp, ?_⟩
   ·rw [z30]
    by_cases h : i < y.length
    ·simp (discharger := omega) only [runL]
    ·have e := hy h
     rw [e, Int.sub_zero] at hn
     simp (discharger := omega) only [runL, e, Int.sub_zero]
   ·dsimp only
    rw [hset, hz0, tx, ty, Int.pow_succ]
    grind
  ·refine ⟨(out.set i (x.getD i 0 - c - y.getD i 0), 0, (i : Int) + 1), ?_, by dsimp only; omega, i + 1, rfl, by omega, by simp [h1], h2.set _ (by omega), fun j hj => by rw [hgs, if_neg (by omega)]; exact hz j (by omega), by simp, ?_⟩
   ·rw [z30]
    by_cases h : i < y.length
    ·simp (discharger := omega) only [runL]
    ·have e := hy h
     rw [e, Int.sub_zero] at hn
     simp (discharger := omega) only [runL, e, Int.sub_zero]
   ·dsimp only
    rw [hset, hz0, tx, ty, Int.pow_succ]
    grind
 ·left
  have : i = x.length := by omega
  subst this
  rw [List.take_of_length_le (i := x.length) (l := x) (Nat.le_refl _)] at h4
  exact ⟨out, by rw [z30]; simp (discharger := omega) only [runL], h1, h2, c, h3, h4⟩
theorem zp9 {x y : List Int} {a b : Int} (hx : x.length <= 4000000) (hK : 2000000000 < K) (nx : NumN a x) (ny : NumN b y) (hab : b <= a) : ∃ z, z7b K x y = some z /\ NumN (a - b) z /\ z.length <= x.length := by
 obtain ⟨r, h1, h2, h3, c, h4, h5⟩ := zo1 hx hK nx.1.1 ny.1.1
 have hl : y.length <= x.length := zh3 (B := 1000000000) (by omega) ny.1 nx.1.1 (by rw [nx.2, ny.2]; exact hab)
 rw [List.take_of_length_le hl, nx.2, ny.2] at h5
 have hv := z65 (B := 1000000000) (by omega) r h3
 rw [h2] at hv
 have hc : c = 0 := by
  by_cases e : c = 0
  ·exact e
  ·have : c = 1 := by omega
   subst this; omega
 subst hc
 obtain ⟨t, t1, t2, t3, t4⟩ := zdw (K := K) (B := 1000000000) (l := r) (by omega) hK h3
 refine ⟨t, ?_, ⟨t2, by rw [t3]; omega⟩, by omega⟩
 unfold z7b
 simp (discharger := omega) only [runL, h1, t1]
theorem zo2 {x y : List Int} (hl : x.length = y.length) (hx : x.length <= 4000000) (hK : 2000000000 < K) (dx : DigB 1000000000 x) (dy : DigB 1000000000 y) :
  ∃ r : Int ⊕ Unit, z2n K x y K ((x.length : Int) - 1) = some r /\ r = (if valB 1000000000 x < valB 1000000000 y then .inl (-1) else if valB 1000000000 x = valB 1000000000 y then .inr () else .inl 1) := by
 have hdrop : ∀ (l : List Int) j, valB 1000000000 (l.drop j) = l.getD j 0 + 1000000000 * valB 1000000000 (l.drop (j + 1)) := fun l j => by
  by_cases h : j < l.length
  ·rw [List.drop_eq_getElem_cons h, zAb, zAh h]; rfl
  ·rw [List.drop_eq_nil_of_le (by omega), List.drop_eq_nil_of_le (by omega), zAb, List.getElem?_eq_none (by omega)]; rfl
 refine zav (fun k (s : Int) => z2n K x y k s) (fun s => ∃ j : Nat, s = (j : Int) - 1 /\ j <= x.length /\ valB 1000000000 (x.drop j) = valB 1000000000 (y.drop j)) (fun s => (s + 1).toNat) _ ?_ ((x.length : Int) - 1) (by omega) ⟨x.length, rfl, Nat.le_refl _, by rw [List.drop_eq_nil_of_le (Nat.le_refl _), List.drop_eq_nil_of_le (by omega)]⟩
 rintro k _ ⟨j, rfl, hj, he⟩
 by_cases h0 : j = 0
 ·subst h0
  left
  rw [List.drop_zero, List.drop_zero] at he
  rw [z2n]
  refine ⟨.inr (), by simp (discharger := omega) only [runL], ?_⟩
  rw [if_neg (by omega), if_pos he]
 ·obtain ⟨i, rfl⟩ : ∃ i, j = i + 1 := ⟨j - 1, by omega⟩
  have e1 : ((i + 1 : Nat) : Int) - 1 = i := by omega
  rw [e1]
  have ex := z2u (by omega) dx i
  have ey := z2u (by omega) dy i
  have sx := z9u 1000000000 x i (by omega)
  have sy := z9u 1000000000 y i (by omega)
  have ax := hdrop x i
  have ay := hdrop y i
  have bx := z65 (B := 1000000000) (by omega) _ (dx.take i)
  have by' := z65 (B := 1000000000) (by omega) _ (dy.take i)
  have cx := z1l (B := 1000000000) (by omega) _ (dx.take i)
  have cy := z1l (B := 1000000000) (by omega) _ (dy.take i)
  rw [List.length_take, Nat.min_eq_left (by omega)] at bx by'
  have p0 : 0 < (1000000000 : Int) ^ i := Int.pow_pos (by omega)
  rw [ax, he] at sx
  rw [ay] at sy
  by_cases h1 : x.getD i 0 < y.getD i 0
  ·left
   refine ⟨.inl (-1), by rw [z2n]; simp (discharger := omega) only [runL], ?_⟩
   have := z4e (Int.le_of_lt p0) (show x.getD i 0 + 1 <= y.getD i 0 by omega)
   rw [if_pos (by grind)]
  ·by_cases h2 : x.getD i 0 > y.getD i 0
   ·left
    refine ⟨.inl 1, by rw [z2n]; simp (discharger := omega) only [runL], ?_⟩
    have := z4e (Int.le_of_lt p0) (show y.getD i 0 + 1 <= x.getD i 0 by omega)
    rw [if_neg (by grind), if_neg (by grind)]
   ·right
    refine ⟨(i : Int) - 1, by rw [z2n]; simp (discharger := omega) only [runL], by omega, i, rfl, by omega, ?_⟩
    rw [ax, ay, he]
    omega
theorem zio {x y : List Int} {a b : Int} (hx : x.length <= 4000000) (hy : y.length <= 4000000) (hK : 2000000000 < K) (nx : NumN a x) (ny : NumN b y) : z5o K x y = some (if a < b then -1 else if a = b then 0 else 1) := by
 unfold z5o
 by_cases h : x.length = y.length
 ·obtain ⟨r, h1, h2⟩ := zo2 (K := K) h hx hK nx.1.1 ny.1.1
  rw [nx.2, ny.2] at h2
  have e : ((x.length : Int) != (y.length : Int)) = false := by simp; omega
  rw [e]
  rw [k64 (by omega) (by omega), h1, h2]
  simp only [Bool.false_eq_true, if_false, z70, Option.bind_some]
  by_cases c1 : a < b
  ·simp [c1, tu1]
  ·by_cases c2 : a = b
   ·subst c2; simp [tu0]
   ·simp [c1, c2, tu1]
 ·have e : ((x.length : Int) != (y.length : Int)) = true := by simp; omega
  rw [e, if_pos rfl]
  by_cases h1 : x.length < y.length
  ·have := zlx (B := 1000000000) (by omega) nx.1.1 ny.1 h1
   rw [nx.2, ny.2] at this
   simp (discharger := omega) only [runL]
  ·have := zlx (B := 1000000000) (by omega) ny.1.1 nx.1 (by omega)
   rw [nx.2, ny.2] at this
   simp (discharger := omega) only [runL]
end Go.Am.Tryz
/- Plain law: products of the program's numbers; division by one digit. -/
namespace Go.Am.Tryz
open Go Go.Am Go.Proofs
variable {K : Nat}
theorem zpa {a b : Int} (ha : 0 <= a /\ a < 1000000000) (hb : 0 <= b /\ b < 1000000000) : 0 <= a * b /\ a * b <= 999999998000000001 := by
 refine ⟨Int.mul_nonneg ha.1 hb.1, ?_⟩
 have h1 := z4e ha.1 (show b <= 999999999 by omega)
 omega
theorem zsa {y out : List Int} {u : Int} {i : Nat} (hl : i + y.length <= out.length) (ho : out.length <= 8000000) (hK : 2000000000 < K) (hu : 0 <= u /\ u < 1000000000) (dy : DigB 1000000000 y) (d0 : DigB 1000000000 out) :
  ∃ r : List Int × Int, z3g K y (i : Int) u K out 0 0 = some r /\ r.1.length = out.length /\ DigB 1000000000 r.1 /\ (0 <= r.2 /\ r.2 < 1000000000) /\ (∀ j, i + y.length <= j -> r.1.getD j 0 = out.getD j 0) ∧
   valB 1000000000 r.1 + 1000000000 ^ (i + y.length) * r.2 = valB 1000000000 out + 1000000000 ^ i * (u * valB 1000000000 y) := by
 refine zav (fun k (s : List Int × Int × Int) => z3g K y (i : Int) u k s.1 s.2.1 s.2.2) (fun s => ∃ q : Nat, s.2.2 = q /\ q <= y.length /\ s.1.length = out.length /\ DigB 1000000000 s.1 /\ (0 <= s.2.1 /\ s.2.1 < 1000000000) /\ (∀ j, i + q <= j -> s.1.getD j 0 = out.getD j 0) ∧
   valB 1000000000 s.1 + 1000000000 ^ (i + q) * s.2.1 = valB 1000000000 out + 1000000000 ^ i * (u * valB 1000000000 (y.take q))) (fun s => (y.length - s.2.2 : Int).toNat) _ ?_ ((out, 0, 0) : List Int × Int × Int) (by simp; omega) ⟨0, rfl, by omega, rfl, d0, by simp, fun _ _ => rfl, by simp [valB]⟩
 rintro k ⟨o, c, _⟩ ⟨q, rfl, h0, h1, h2, h3, hz, h4⟩
 dsimp only at h1 h2 h3 h4 hz ⊢
 by_cases hq : q < y.length
 ·right
  have ey := z2u (by omega) dy q
  have eo := z2u (by omega) h2 (i + q)
  have ty := z49 1000000000 y q
  have hm := zpa hu ey
  have hset := fun d => z7y 1000000000 o (i + q) d (by omega)
  have hgs := fun d j => z8o (cs := o) (i := i + q) (j := j) (v := d) (by omega)
  have e1 : ((i : Int) + (q : Int)) = ((i + q : Nat) : Int) := by omega
  generalize hw : u * y.getD q 0 = w at hm
  generalize ho : o.getD (i + q) 0 = z at eo hset
  have hdm := Int.emod_add_mul_ediv (w + z + c) 1000000000
  refine ⟨(o.set (i + q) ((w + z + c) % 1000000000), (w + z + c) / 1000000000, (q : Int) + 1), ?_, by dsimp only; omega, q + 1, rfl, by omega, by simp [h1], h2.set _ (by omega), by dsimp only; omega, fun j hj => by rw [hgs, if_neg (by omega)]; exact hz j (by omega), ?_⟩
  ·rw [z3g]
   simp (discharger := omega) only [runL, e1, hw, ho]
  ·dsimp only
   rw [hset, ty]
   have e2 : (1000000000 : Int) ^ (i + (q + 1)) = 1000000000 ^ i * 1000000000 ^ q * 1000000000 := by rw [<- Nat.add_assoc, Int.pow_succ, Int.pow_add]
   rw [e2]
   rw [Int.pow_add] at h4 ⊢
   subst hw
   generalize (u * y.getD q 0 + z + c) / 1000000000 = Q at *
   generalize (u * y.getD q 0 + z + c) % 1000000000 = R at *
   grind
 ·left
  have : q = y.length := by omega
  subst this
  rw [List.take_of_length_le (Nat.le_refl _)] at h4
  exact ⟨(o, c), by rw [z3g]; simp (discharger := omega) only [runL], h1, h2, h3, hz, h4⟩
theorem zo3 {x y : List Int} (hl : x.length + y.length <= 8000000) (hK : 2000000000 < K) (dx : DigB 1000000000 x) (dy : DigB 1000000000 y) :
  ∃ r : List Int, z3h K x y K (List.replicate (x.length + y.length) 0) 0 = some r /\ r.length = x.length + y.length /\ DigB 1000000000 r /\ valB 1000000000 r = valB 1000000000 x * valB 1000000000 y := by
 refine zav (fun k (s : List Int × Int) => z3h K x y k s.1 s.2) (fun s => ∃ i : Nat, s.2 = i /\ i <= x.length /\ s.1.length = x.length + y.length /\ DigB 1000000000 s.1 /\ (∀ j, i + y.length <= j -> s.1.getD j 0 = 0) /\ valB 1000000000 s.1 = valB 1000000000 (x.take i) * valB 1000000000 y) (fun s => (x.length - s.2 : Int).toNat) _ ?_ ((List.replicate (x.length + y.length) 0, 0) : List Int × Int) (by simp; omega) ⟨0, rfl, by omega, by simp, .zeros (by omega) _, fun j _ => by simp [zAb, List.getElem?_replicate]; split <;> rfl, by simp [valB, zbj]⟩
 rintro k ⟨out, _⟩ ⟨i, rfl, h0, h1, h2, hz, h4⟩
 dsimp only at h1 h2 h4 hz ⊢
 by_cases hi : i < x.length
 ·right
  have ex := z2u (by omega) dx i
  have tx := z49 1000000000 x i
  obtain ⟨⟨r, c⟩, r1, r2, r3, r4, r5, r6⟩ := zsa (K := K) (y := y) (out := out) (u := x.getD i 0) (i := i) (by omega) (by omega) hK ex dy h2
  dsimp only at r2 r3 r4 r5 r6
  have hz0 := r5 (i + y.length) (Nat.le_refl _)
  rw [hz _ (Nat.le_refl _)] at hz0
  have hset := z7y 1000000000 r (i + y.length) c (by omega)
  have hgs := fun d j => z8o (cs := r) (i := i + y.length) (j := j) (v := d) (by omega)
  have e1 : ((i : Int) + (y.length : Int)) = ((i + y.length : Nat) : Int) := by omega
  refine ⟨(r.set (i + y.length) c, (i : Int) + 1), ?_, by dsimp only; omega, i + 1, rfl, by omega, by simp [r2, h1], r3.set _ r4, fun j hj => by rw [hgs, if_neg (by omega), r5 j (by omega)]; exact hz j (by omega), ?_⟩
  ·rw [z3h]
   simp (discharger := omega) only [runL, r1, e1]
  ·dsimp only
   rw [hset, hz0, tx]
   grind
 ·left
  have : i = x.length := by omega
  subst this
  rw [List.take_of_length_le (Nat.le_refl _)] at h4
  exact ⟨out, by rw [z3h]; simp (discharger := omega) only [runL], h1, h2, h4⟩
theorem zh4 {x y : List Int} {a b : Int} (hl : x.length + y.length <= 8000000) (hK : 2000000000 < K) (nx : NumN a x) (ny : NumN b y) : ∃ z, z50 K x y = some z /\ NumN (a * b) z /\ z.length <= x.length + y.length := by
 obtain ⟨r, h1, h2, h3, h4⟩ := zo3 hl hK nx.1.1 ny.1.1
 rw [nx.2, ny.2] at h4
 obtain ⟨t, t1, t2, t3, t4⟩ := zdw (K := K) (B := 1000000000) (l := r) (by omega) hK h3
 refine ⟨t, ?_, ⟨t2, by rw [t3, h4]⟩, by omega⟩
 unfold z50
 have e1 : ((x.length : Int) + (y.length : Int)) = ((x.length + y.length : Nat) : Int) := by omega
 simp (discharger := omega) only [runL, h1, t1, e1]
theorem zlz (l : List Int) (j : Nat) : valB 1000000000 (l.drop j) = l.getD j 0 + 1000000000 * valB 1000000000 (l.drop (j + 1)) := by
 by_cases h : j < l.length
 ·rw [List.drop_eq_getElem_cons h, zAb, zAh h]; rfl
 ·rw [List.drop_eq_nil_of_le (by omega), List.drop_eq_nil_of_le (by omega), zAb, List.getElem?_eq_none (by omega)]; rfl
theorem zjt {x : List Int} {d : Int} (hl : x.length <= 8000000) (hK : 2000000000 < K) (dx : DigB 1000000000 x) (hd : 1 <= d /\ d <= 1000000000) :
  ∃ r : List Int × Int, z2r K x d K (List.replicate x.length 0) 0 ((x.length : Int) - 1) = some r /\ r.1.length = x.length /\ DigB 1000000000 r.1 /\ (0 <= r.2 /\ r.2 < d) /\ valB 1000000000 x = d * valB 1000000000 r.1 + r.2 := by
 refine zav (fun k (s : List Int × Int × Int) => z2r K x d k s.1 s.2.1 s.2.2) (fun s => ∃ j : Nat, s.2.2 = (j : Int) - 1 /\ j <= x.length /\ s.1.length = x.length /\ DigB 1000000000 s.1 /\ (0 <= s.2.1 /\ s.2.1 < d) /\ valB 1000000000 (x.drop j) = d * valB 1000000000 (s.1.drop j) + s.2.1) (fun s => (s.2.2 + 1).toNat) _ ?_ ((List.replicate x.length 0, 0, (x.length : Int) - 1) : List Int × Int × Int) (by dsimp only; omega) ⟨x.length, rfl, Nat.le_refl _, by simp, .zeros (by omega) _, by dsimp only; omega, by simp [valB]⟩
 rintro k ⟨out, c, _⟩ ⟨j, rfl, hj, h1, h2, h3, h4⟩
 dsimp only at h1 h2 h3 h4 ⊢
 by_cases h0 : j = 0
 ·left
  subst h0
  rw [List.drop_zero, List.drop_zero] at h4
  exact ⟨(out, c), by rw [z2r]; simp (discharger := omega) only [runL], h1, h2, h3, h4⟩
 ·right
  obtain ⟨i, rfl⟩ : ∃ i, j = i + 1 := ⟨j - 1, by omega⟩
  have e1 : ((i + 1 : Nat) : Int) - 1 = i := by omega
  rw [e1]
  have ex := z2u (by omega) dx i
  have ax := zlz x i
  generalize hu : x.getD i 0 = u at ex ax
  have hq0 : 0 <= (c * 1000000000 + u) / d := Int.ediv_nonneg (by omega) (by omega)
  have hqB : (c * 1000000000 + u) / d < 1000000000 := Int.ediv_lt_of_lt_mul (by omega) (by omega)
  have hr0 : 0 <= (c * 1000000000 + u) % d := Int.emod_nonneg _ (by omega)
  have hrd : (c * 1000000000 + u) % d < d := Int.emod_lt_of_pos _ (by omega)
  have hdm := Int.emod_add_mul_ediv (c * 1000000000 + u) d
  refine ⟨(out.set i ((c * 1000000000 + u) / d), (c * 1000000000 + u) % d, (i : Int) - 1), ?_, by dsimp only; omega, i, rfl, by omega, by simp [h1], h2.set _ ⟨hq0, hqB⟩, ⟨hr0, hrd⟩, ?_⟩
  ·rw [z2r]
   have hd' : d ≠ 0 := by omega
   simp (discharger := omega) only [runL, hu]
  ·dsimp only
   rw [zlz (out.set i _) i, List.drop_set_of_lt (by omega), z8o (by omega), if_pos rfl, ax, h4]
   generalize (c * 1000000000 + u) / d = Q at *
   generalize (c * 1000000000 + u) % d = R at *
   grind
theorem zo4 {d : Int} (hd : 0 <= d /\ d < 1000000000) (hK : 2000000000 < K) : ∃ z, z2t K [d] = some z /\ NumN d z /\ z.length <= 1 := by
 obtain ⟨t, t1, t2, t3, t4⟩ := zdw (K := K) (B := 1000000000) (l := [d]) (by simp) hK (fun x hx => by simp at hx; omega)
 exact ⟨t, t1, ⟨t2, by rw [t3]; simp [valB]⟩, by simpa using t4⟩
theorem zdx {n d q r : Int} (hd : 0 < d) (h : n = d * q + r) (h0 : 0 <= r) (h1 : r < d) : q = n / d /\ r = n % d := by
 have e1 : n / d = q := by
  rw [h, Int.add_comm, Int.add_mul_ediv_left _ _ (by omega), Int.ediv_eq_zero_of_lt h0 h1]; omega
 refine ⟨e1.symm, ?_⟩
 have := Int.emod_add_mul_ediv n d
 rw [e1] at this
 omega
theorem zip {x : List Int} {a d : Int} (hl : x.length <= 8000000) (hK : 2000000000 < K) (nx : NumN a x) (hd : 1 <= d /\ d <= 1000000000) : ∃ q r, z5p K x d = some (q, r) /\ NumN (a / d) q /\ NumN (a % d) r /\ q.length <= x.length /\ r.length <= 1 := by
 obtain ⟨⟨o, c⟩, h1, h2, h3, h4, h5⟩ := zjt hl hK nx.1.1 hd
 dsimp only at h2 h3 h4 h5
 rw [nx.2] at h5
 obtain ⟨e1, e2⟩ := zdx (by omega) h5 h4.1 h4.2
 obtain ⟨t, t1, t2, t3, t4⟩ := zdw (K := K) (B := 1000000000) (l := o) (by omega) hK h3
 obtain ⟨z, z1, z2, z3⟩ := zo4 (K := K) (d := c) (by omega) hK
 refine ⟨t, z, ?_, ⟨t2, by rw [t3, e1]⟩, by rw [<- e2]; exact z2, by omega, z3⟩
 unfold z5p
 simp (discharger := omega) only [runL, h1, t1, z1]
end Go.Am.Tryz
/- Plain law: texts and the program's numbers: Read and Text. -/
namespace Go.Am.Tryz
open Go Go.Am Go.Proofs
variable {K : Nat}
def numB (l : List Int) : Int := valB 10 ((l.map (· - 48)).reverse)
theorem zo5 (s : zAd) : numT s = numB (z04 s) := rfl
theorem zdy : numB [] = 0 := rfl
theorem zcr (l : List Int) (c : Int) : numB (l ++ [c]) = numB l * 10 + (c - 48) := by
 unfold numB
 simp [valB]
 omega
theorem zm0 (l m : List Int) : numB (l ++ m) = numB m + 10 ^ m.length * numB l := by
 unfold numB
 rw [List.map_append, List.reverse_append, z6x]
 simp
theorem zg2 (c : Int) (l : List Int) : numB (c :: l) = numB l + 10 ^ l.length * (c - 48) := by
 have := zm0 [c] l
 simpa [numB, valB] using this
theorem zm1 {l : List Int} (h : l.all digT = true) : DigB 10 ((l.map (· - 48)).reverse) := by
 intro d hd
 rw [List.mem_reverse, List.mem_map] at hd
 obtain ⟨c, hc, rfl⟩ := hd
 have := List.all_eq_true.1 h c hc
 simp only [digT, Bool.and_eq_true, decide_eq_true_eq] at this
 omega
theorem z7e {l : List Int} (h : l.all digT = true) : 0 <= numB l := z1l (by omega) _ (zm1 h)
theorem zev {l : List Int} (h : l.all digT = true) : numB l < 10 ^ l.length := by
 have := z65 (B := 10) (by omega) _ (zm1 h)
 simpa [numB] using this
theorem z8q {c : Int} : digT c = true ↔ 48 <= c /\ c <= 57 := by simp [digT]
theorem zdz {l : List Int} (h : l.all digT = true) (k : Nat) : (l.take k).all digT = true := List.all_eq_true.2 fun x hx => List.all_eq_true.1 h x (List.mem_of_mem_take hx)
theorem zqp {l : List Int} (h : l.all digT = true) (k : Nat) : (l.drop k).all digT = true := List.all_eq_true.2 fun x hx => List.all_eq_true.1 h x (List.mem_of_mem_drop hx)
theorem ziq {l : List Int} {i : Nat} (h : i < l.length) : l.take (i + 1) = l.take i ++ [l.getD i 0] := by
 rw [List.take_add_one, zAh h, zAb, zAh h]; rfl
theorem zir {l : List Int} (h : l.all digT = true) {i : Nat} (hi : i < l.length) : 48 <= l.getD i 0 /\ l.getD i 0 <= 57 := by
 rw [zAb, zAh hi]
 exact z8q.1 (List.all_eq_true.1 h _ (List.getElem_mem hi))
theorem zo6 {t : zAd} (ht : t.size <= 9) (hK : 2000000000 < K) (hd : (z04 t).all digT = true) : z3f K t K 0 0 = some (numT t) := by
 suffices h : ∃ r, z3f K t K 0 0 = some r /\ r = numT t by obtain ⟨r, h1, rfl⟩ := h; exact h1
 have hn := z02 t
 refine zav (fun k (s : Int × Int) => z3f K t k s.1 s.2) (fun s => ∃ i : Nat, s.2 = i /\ i <= t.size /\ s.1 = numB ((z04 t).take i)) (fun s => (t.size - s.2 : Int).toNat) _ ?_ ((0, 0) : Int × Int) (by simp; omega) ⟨0, rfl, by omega, by simp [zdy]⟩
 rintro k ⟨_, _⟩ ⟨i, rfl, h0, rfl⟩
 dsimp only
 by_cases hi : i < t.size
 ·right
  have b1 := z7e (zdz hd i)
  have b2 := zev (zdz hd i)
  have b3 : (10 : Int) ^ (List.take i (z04 t)).length <= 10 ^ 8 := by
   rw [List.length_take, hn, Nat.min_eq_left (by omega)]
   exact z8a (by omega) (by omega)
  have hc := zir hd (i := i) (by omega)
  have hs := ziq (l := z04 t) (i := i) (by omega)
  have b4 : (10 : Int) ^ 8 = 100000000 := by decide
  refine ⟨(numB ((z04 t).take (i + 1)), (i : Int) + 1), ?_, by dsimp only; omega, i + 1, rfl, by omega, rfl⟩
  rw [z3f, hs, zcr]
  generalize numB ((z04 t).take i) = d at *
  rw [hn]
  have hi' : (i : Int) < ((z04 t).length : Int) := by omega
  simp (discharger := omega) only [runL]
 ·left
  have : i = t.size := by omega
  subst this
  refine ⟨numB ((z04 t).take t.size), by rw [z3f, hn]; simp (discharger := omega) only [runL], ?_⟩
  rw [List.take_of_length_le (by omega)]
  rfl
theorem zo7 {s : zAd} (hs : s.size <= 8000000) (hK : 2000000000 < K) (hd : (z04 s).all digT = true) :
  ∃ r : List Int, z40 K s K [] (s.size : Int) = some r /\ 9 * r.length < s.size + 9 /\ DigB 1000000000 r /\ valB 1000000000 r = numT s := by
 have hn := z02 s
 refine zav (fun k (q : List Int × Int) => z40 K s k q.1 q.2) (fun q => q.2 = (s.size : Int) - 9 * q.1.length /\ 9 * q.1.length < s.size + 9 /\ DigB 1000000000 q.1 /\ valB 1000000000 q.1 + 1000000000 ^ q.1.length * numB ((z04 s).take q.2.toNat) = numT s) (fun q => (q.2 + 9).toNat) _ ?_ (([], (s.size : Int)) : List Int × Int) (by dsimp only; omega) ⟨by simp, by simp, .nil _, by simp [valB]; rw [List.take_of_length_le (by omega)]; rfl⟩
 rintro k ⟨out, e⟩ ⟨h1, h2, h3, h4⟩
 dsimp only at h1 h2 h3 h4 ⊢
 by_cases he : e > 0
 ·right
  obtain ⟨lo, hlo, hm⟩ : ∃ lo : Nat, imax 0 (z03 .i64 (e - 9)) = lo /\ ((lo : Int) = e - 9 \/ ((lo = 0) /\ e < 9)) := by
   rw [k64 (by omega) (by omega)]
   unfold imax
   by_cases h9 : e - 9 > 0
   ·exact ⟨(e - 9).toNat, by rw [if_pos h9]; omega, .inl (by omega)⟩
   ·exact ⟨0, by rw [if_neg h9]; rfl, by omega⟩
  have hb : z04 (s.extract lo e.toNat) = ((z04 s).drop lo).take (e.toNat - lo) := z3u _ _ _
  have hsz : (s.extract lo e.toNat).size = e.toNat - lo := by rw [<- z02, hb, List.length_take, List.length_drop]; omega
  have hdp : (z04 (s.extract lo e.toNat)).all digT = true := by rw [hb]; exact zdz (zqp hd _) _
  have hp := zo6 (K := K) (t := s.extract lo e.toNat) (by omega) hK hdp
  have hv0 := z7e hdp
  have hv1 := zev hdp
  have hsplit : (z04 s).take e.toNat = (z04 s).take lo ++ z04 (s.extract lo e.toNat) := by
   rw [hb, show e.toNat = lo + (e.toNat - lo) by omega, List.take_add]; simp
  have hlen : (z04 (s.extract lo e.toNat)).length = e.toNat - lo := by rw [z02]; exact hsz
  have hBv : numB (z04 (s.extract lo e.toNat)) < 1000000000 := by
   have : (10 : Int) ^ (z04 (s.extract lo e.toNat)).length <= 10 ^ 9 := z8a (by omega) (by omega)
   have e9 : (10 : Int) ^ 9 = 1000000000 := by decide
   omega
  refine ⟨(out ++ [numT (s.extract lo e.toNat)], e - 9), ?_, by dsimp only; omega, by simp; omega, by simp; omega, h3.snoc ⟨hv0, hBv⟩, ?_⟩
  ·rw [z40, hlo]
   simp (discharger := omega) only [runL, hp]
  ·dsimp only
   rw [z8p, List.length_append, List.length_singleton, Int.pow_succ, zo5]
   rw [hsplit, zm0, hlen] at h4
   rcases hm with hm | ⟨hm, h9⟩
   ·have e9 : e.toNat - lo = 9 := by omega
    have e10 : (10 : Int) ^ 9 = 1000000000 := by decide
    have el : (e - 9).toNat = lo := by omega
    rw [e9, e10] at h4
    rw [el]
    grind
   ·subst hm
    have el : (e - 9).toNat = 0 := by omega
    rw [el, List.take_zero, zdy] at *
    grind
 ·left
  have el : e.toNat = 0 := by omega
  rw [el, List.take_zero, zdy] at h4
  exact ⟨out, by rw [z40]; simp (discharger := omega) only [runL], h2, h3, by omega⟩
theorem zc5 {s : zAd} (hs : s.size <= 8000000) (hK : 2000000000 < K) (hd : (z04 s).all digT = true) : ∃ z, z6r K s = some z /\ NumN (numT s) z /\ 9 * z.length < s.size + 9 := by
 obtain ⟨r, h1, h2, h3, h4⟩ := zo7 hs hK hd
 obtain ⟨t, t1, t2, t3, t4⟩ := zdw (K := K) (B := 1000000000) (l := r) (by omega) hK h3
 exact ⟨t, by unfold z6r; simp (discharger := omega) only [runL, h1, t1], ⟨t2, by rw [t3, h4]⟩, by omega⟩
end Go.Am.Tryz
/- Plain law: the reference's texts of digits. -/
namespace Go.Am.Tryz
open Go Go.Am Go.Proofs
variable {K : Nat}
theorem zo8 {s : zAd} {c : Int} {l : List Int} (h : z04 s = c :: l) : bidx s 0 = some c := by rw [zab, h]; rfl
theorem zm2 : ∀ n k (s : zAd), s.size = n -> n < k -> 0 < n -> (z04 s).all digT = true -> ∃ t, z6f K k s = some t /\ CanT t /\ numT t = numT s := by
 intro n
 induction n with
 | zero => intro k s _ _ h; omega
 | succ n ih =>
  intro k s hs hk _ hd
  obtain ⟨k, rfl⟩ : ∃ m, k = m + 1 := ⟨k - 1, by omega⟩
  have hn := z02 s
  cases hb : z04 s with
  | nil => rw [hb] at hn; simp at hn; omega
  | cons c l =>
   rw [z6f, zo8 hb]
   by_cases h1 : (s.size : Int) > 1
   ·by_cases h2 : c = 48
    ·obtain ⟨t, h3, h4, h5⟩ := zg0 hb
     have hl : l.length = n := by rw [hb] at hn; simp at hn; omega
     obtain ⟨r, h6, h7, h8⟩ := ih k t (by omega) (by omega) (by omega) (by rw [h4]; rw [hb] at hd; simp only [List.all_cons, Bool.and_eq_true] at hd; exact hd.2)
     refine ⟨r, ?_, h7, ?_⟩
     ·simp [h1, h2, h3, h6, tu1]
     ·rw [h8, znx (s := s) (t := t) (c := c) (by rw [hb, h4]), h2]; simp
    ·refine ⟨s, by simp [h1, h2, tu1], ⟨by omega, hd, fun e => ?_⟩, rfl⟩
     rw [hb] at e; simp at e; exact absurd e h2
   ·exact ⟨s, by simp [h1, tu1], ⟨by omega, hd, fun e => by omega⟩, rfl⟩
theorem zcs {s : zAd} (hs : s.size <= 1048576) (h0 : 0 < s.size) (hK : s.size < K) (hd : (z04 s).all digT = true) : ∃ t, z7t K s = some t /\ CanT t /\ numT t = numT s := by
 obtain ⟨t, h1, h2⟩ := zm2 (K := K) s.size K s rfl hK h0 hd
 exact ⟨t, by unfold z7t; rw [h1]; rfl, h2⟩
theorem za4 {s : zAd} (hs : s.size <= 1048576) (hd : (z04 s).all digT = true) (k : Nat) (hk : k <= 1048577) : z6j K s k = some ((z6y s).getD k 0) := by
 have hn := z02 s
 unfold z6j
 by_cases h : k < s.size
 ·have h' : ((k : Int) < (s.size : Int)) := by omega
  have hi : s.size - 1 - k < (z04 s).length := by omega
  have e1 : z03 .i64 (z03 .i64 ((s.size : Int) - 1) - (k : Int)) = ((s.size - 1 - k : Nat) : Int) := by
   rw [kw (a := (s.size : Int) - 1) (by omega) (by omega), kw (by omega) (by omega)]; omega
  have hx : (z04 s)[s.size - 1 - k]? = some (z04 s)[s.size - 1 - k] := zAh hi
  have hc := List.all_eq_true.1 hd _ (List.getElem_mem hi)
  simp only [digT, Bool.and_eq_true, decide_eq_true_eq] at hc
  rw [decide_eq_true h', if_pos rfl, e1, zab, z2v hx]
  have hg : (z6y s).getD k 0 = (z04 s)[s.size - 1 - k] - 48 := by
   unfold z6y
   rw [zAb, List.getElem?_reverse (by simp; omega), List.length_map, hn, List.getElem?_map, hx]
   rfl
  rw [hg]
  generalize (z04 s)[s.size - 1 - k] = c at hc
  have e2 : z03 .u8 (c - 48) = c - 48 := z8f (by simp [z56]; omega)
  have e3 : IntKind.wrap .i64 (c - 48) = c - 48 := by rw [<- z8b]; exact kw (by omega) (by omega)
  simp [e2, e3]
 ·have h' : ¬ ((k : Int) < (s.size : Int)) := by omega
  rw [decide_eq_false h', if_neg (by simp)]
  congr 1
  rw [zAb, List.getElem?_eq_none (by rw [z6k]; omega)]
  rfl
theorem zuy {x : Int} (h : 0 <= x) (h' : x <= 255) : z03 .u8 x = x := z8f (by simp [z56]; omega)
theorem zo9 {l : List Int} (hl : l.length <= 1048577) (hK : l.length < K) (hd : DigB 10 l) : z3y K l K (List.replicate l.length 0) 0 = some (l.map (48 + ·)).reverse := by
 suffices h : ∃ r, z3y K l K (List.replicate l.length 0) 0 = some r /\ r = (l.map (48 + ·)).reverse by
  obtain ⟨r, h1, rfl⟩ := h; exact h1
 refine zhy (S := List Int) l.length (fun k s i => z3y K l k s i) (fun b i => b.length = l.length /\ ∀ j < l.length, b.getD j 0 = if l.length - 1 - j < i then 48 + l.getD (l.length - 1 - j) 0 else 0) _ ?_ ?_ K _ hK ⟨by simp, fun j hj => by simp [zAb, hj]⟩
 ·rintro k b i hi ⟨hb, hj⟩
  right
  have hp : l.length - 1 - i < b.length := by omega
  have e1 : z03 .i64 (z03 .i64 ((l.length : Int) - 1) - (i : Int)) = ((l.length - 1 - i : Nat) : Int) := by
   rw [kw (a := (l.length : Int) - 1) (by omega) (by omega), kw (by omega) (by omega)]; omega
  have hx := hd (l.getD i 0) (by rw [zAb, zAh hi]; simp)
  have e2 : IntKind.wrap .u8 (z03 .i64 (48 + l.getD i 0)) = 48 + l.getD i 0 := by
   rw [kw (a := 48 + l.getD i 0) (by omega) (by omega), <- z8b]; exact zuy (by omega) (by omega)
  refine ⟨b.set (l.length - 1 - i) (48 + l.getD i 0), ⟨by simp [hb], fun j hjl => ?_⟩, ?_⟩
  ·have hg : (b.set (l.length - 1 - i) (48 + l.getD i 0)).getD j 0 = if j = l.length - 1 - i then 48 + l.getD i 0 else b.getD j 0 := z8o hp
   rw [hg, hj j hjl]
   by_cases e : j = l.length - 1 - i
   ·have e3 : l.length - 1 - j = i := by omega
    rw [if_pos e, e3, if_pos (zAg i)]
   ·rw [if_neg e]
    by_cases e3 : l.length - 1 - j < i
    ·rw [if_pos e3, if_pos (by omega)]
    ·rw [if_neg e3, if_neg (by omega)]
  ·show z3y K l (k + 1) b i = _
   rw [z3y, z7j hi, if_pos rfl, zlv hi]
   simp only [Option.bind_some, e1, zlv hp, e2, Int.toNat_natCast, kw1 hi (by omega)]
 ·rintro k b i rfl ⟨hb, hj⟩
  refine ⟨b, ?_, ?_⟩
  ·show z3y K l (k + 1) b l.length = _
   rw [z3y, z4m (Nat.le_refl _)]; simp
  ·apply List.ext_getElem (by simp [hb])
   intro j h1 h2
   have h3 := hj j (by omega)
   rw [if_pos (by omega), zAb, zAh h1, zAb, zAh (show l.length - 1 - j < l.length by omega)] at h3
   simp at h3
   simp [h3]
theorem zhz {l : List Int} (hl : l.length <= 1048575) (h0 : l ≠ []) (hK : l.length + 1 < K) (hd : DigB 10 l) : ∃ t, zan K l = some t /\ CanT t /\ numT t = valB 10 l := by
 have hlen : 0 < l.length := by cases l with | nil => exact absurd rfl h0 | cons _ _ => simp
 have hrange : ∀ x ∈ (l.map (48 + ·)).reverse, 0 <= x /\ x <= 255 := fun x hx => by
  rw [List.mem_reverse, List.mem_map] at hx
  obtain ⟨d, h1, rfl⟩ := hx
  have := hd d h1
  omega
 have hb := zjs _ hrange
 have hz : z04 ((⟨#[48]⟩ : zAd) ++ strOfNums (l.map (48 + ·)).reverse) = 48 :: (l.map (48 + ·)).reverse := by
  rw [z28, hb]; rfl
 have hsz : ((⟨#[48]⟩ : zAd) ++ strOfNums (l.map (48 + ·)).reverse).size = l.length + 1 := by
  rw [<- z02, hz]; simp
 have hdg : (z04 ((⟨#[48]⟩ : zAd) ++ strOfNums (l.map (48 + ·)).reverse)).all digT = true := by
  rw [hz, List.all_eq_true]
  intro x hx
  rcases List.mem_cons.1 hx with rfl | hx
  ·rfl
  ·rw [List.mem_reverse, List.mem_map] at hx
   obtain ⟨d, h1, rfl⟩ := hx
   have := hd d h1
   simp [digT]; omega
 obtain ⟨t, h1, h2, h3⟩ := zcs (K := K) (s := (⟨#[48]⟩ : zAd) ++ strOfNums (l.map (48 + ·)).reverse) (by omega) (by omega) (by omega) hdg
 refine ⟨t, ?_, h2, ?_⟩
 ·unfold zan
  rw [if_pos (by omega), Int.toNat_natCast, zo9 (by omega) (by omega) hd]
  have e1 : (⟨#[48]⟩ : zAd).size = 1 := rfl
  simp only [Option.bind_some, tu1, List.length_reverse, List.length_map, strOfNums_size, e1]
  rw [if_pos hlen, if_pos (by omega), h1]
  rfl
 ·rw [h3]
  unfold numT z6y
  rw [hz, List.map_cons, List.reverse_cons, z6x, List.map_reverse, List.reverse_reverse, List.map_map]
  have : l.map ((fun x => x - 48) ∘ (fun x => 48 + x)) = l := by
   conv => rhs; rw [<- List.map_id l]
   apply List.map_congr_left
   intro x _
   show 48 + x - 48 = x
   omega
  rw [this]
  simp [valB]
end Go.Am.Tryz
/- Plain law: the reference's sum and difference of texts. -/
namespace Go.Am.Tryz
open Go Go.Am Go.Proofs
variable {K : Nat}
theorem zg3 (B : Int) (x : List Int) (k : Nat) : valB B (x.take (k + 1)) = valB B (x.take k) + B ^ k * x.getD k 0 := by
 by_cases h : k < x.length
 ·have hx : x[k]? = some x[k] := zAh h
  rw [List.take_add_one, hx, z6x, List.length_take, Nat.min_eq_left (by omega), zAb, hx]
  simp [valB]
 ·rw [List.take_of_length_le (by omega), List.take_of_length_le (by omega), zAb, List.getElem?_eq_none (by omega)]
  simp
theorem zoa {B : Int} (hB : 0 < B) {x : List Int} (h : DigB B x) (k : Nat) : 0 <= x.getD k 0 /\ x.getD k 0 < B := by
 by_cases hk : k < x.length
 ·rw [zAb, zAh hk]
  exact h _ (List.getElem_mem hk)
 ·rw [zAb, List.getElem?_eq_none (by omega)]
  simp [hB]
theorem zm3 {i j : Nat} (h : i <= j) : (10 : Int) ^ i <= 10 ^ j := by
 have h1 : (10 : Nat) ^ i <= 10 ^ j := Nat.pow_le_pow_right (by omega) h
 have h2 : ((10 ^ i : Nat) : Int) <= ((10 ^ j : Nat) : Int) := by omega
 simpa using h2
theorem zob (i : Nat) : 0 < (10 : Int) ^ i := by
 have h1 : 0 < (10 : Nat) ^ i := Nat.pow_pos (by omega)
 have h2 : (0 : Int) < ((10 ^ i : Nat) : Int) := by omega
 simpa using h2
theorem zsb {a b : zAd} (ha : a.size <= 1000000) (hb : b.size <= 1000000) (h0 : 0 < a.size) (hK : 1048580 < K) (da : (z04 a).all digT = true) (db : (z04 b).all digT = true) : ∃ t, z9n K a b = some t /\ CanT t /\ numT t = numT a + numT b := by
 have dx := z8n da
 have dy := z8n db
 have lx := z6k a
 have ly := z6k b
 have vx := z65 (B := 10) (by omega) _ dx
 have vy := z65 (B := 10) (by omega) _ dy
 have key : ∃ r, z35 K a b K [] 0 0 = some r /\ r ≠ [] /\ r.length <= 1048575 /\ DigB 10 r /\ valB 10 r = numT a + numT b := by
  refine zhy (S := List Int × Int) (max a.size b.size + 1) (fun k s i => z35 K a b k s.1 s.2 i) (fun s i => s.1.length = i /\ DigB 10 s.1 /\ (0 <= s.2 /\ s.2 <= 1) /\ valB 10 s.1 + 10 ^ i * s.2 = valB 10 ((z6y a).take i) + valB 10 ((z6y b).take i)) _ ?_ ?_ K ([], 0) (by omega) ⟨rfl, DigB.nil 10, ⟨by omega, by omega⟩, by simp [valB]⟩
  ·rintro k ⟨out, c⟩ i hi ⟨h1, h2, h3, h4⟩
   simp only at h1 h2 h3 h4
   have hcond : (if (decide ((i : Int) < (a.size : Int))) = true then some true else (if (decide ((i : Int) < (b.size : Int))) = true then some true else some (decide (c > 0)))) = some (decide ((i < a.size \/ i < b.size) \/ c > 0)) := by
    by_cases e1 : i < a.size
    ·simp [e1]
    ·by_cases e2 : i < b.size
     ·simp [e1, e2]
     ·simp [e1, e2]
   show (∃ r, z35 K a b (k + 1) out c i = some r /\ _) \/ _
   rw [z35, hcond]
   simp only [Option.bind_some, tu1]
   by_cases hc : (i < a.size \/ i < b.size) \/ c > 0
   ·right
    have ex := zoa (by omega) dx i
    have ey := zoa (by omega) dy i
    rw [decide_eq_true hc, if_pos rfl, za4 (by omega) da i (by omega), za4 (by omega) db i (by omega)]
    have tx := zg3 10 (z6y a) i
    have ty := zg3 10 (z6y b) i
    generalize (z6y a).getD i 0 = x at ex tx
    generalize (z6y b).getD i 0 = y at ey ty
    have e1 : z03 .i64 (x + y) = x + y := kw (by omega) (by omega)
    have e2 : z03 .i64 (x + y + c) = x + y + c := kw (by omega) (by omega)
    have e3 : Int.tmod (x + y + c) 10 = (x + y + c) % 10 := Int.tmod_eq_emod_of_nonneg (by omega)
    have e4 : Int.tdiv (x + y + c) 10 = (x + y + c) / 10 := Int.tdiv_eq_ediv_of_nonneg (by omega)
    have e5 : z03 .i64 ((x + y + c) / 10) = (x + y + c) / 10 := kw (by omega) (by omega)
    refine ⟨(out ++ [(x + y + c) % 10], (x + y + c) / 10), ⟨by simp [h1], h2.app (fun d hd => by simp at hd; omega), ⟨by omega, by omega⟩, ?_⟩, ?_⟩
    ·have hm := Int.emod_add_mul_ediv (x + y + c) 10
     generalize hq : (x + y + c) / 10 = q at hm
     generalize hr : (x + y + c) % 10 = r at hm
     simp only
     rw [z6x, h1, tx, ty, Int.pow_succ]
     simp only [valB, Int.mul_zero, Int.add_zero]
     generalize valB 10 ((z6y a).take i) = A at h4
     generalize valB 10 ((z6y b).take i) = B at h4
     generalize valB 10 out = C at h4
     generalize (10 : Int) ^ i = p at h4
     have e6 : p * (r + 10 * q) = p * (x + y + c) := by rw [hm]
     rw [Int.mul_add, Int.mul_add, Int.mul_add, <- Int.mul_assoc] at e6
     omega
    ·simp only [Option.bind_some, e1, e2, e3, e4, e5, lt, List.length_cons, List.length_nil, kw1 hi (by omega)]
     rw [if_pos (by omega)]
   ·left
    rw [decide_eq_false hc]
    refine ⟨out, by simp, ?_, by omega, h2, ?_⟩
    ·intro e; rw [e] at h1; simp at h1; omega
    ·rw [List.take_of_length_le (by omega), List.take_of_length_le (by omega)] at h4
     have : c = 0 := by omega
     rw [this] at h4
     unfold numT
     omega
  ·rintro k ⟨out, c⟩ i rfl ⟨h1, h2, h3, h4⟩
   simp only at h1 h2 h3 h4
   rw [List.take_of_length_le (by omega), List.take_of_length_le (by omega)] at h4
   have p1 : (10 : Int) ^ (z6y a).length <= 10 ^ (max a.size b.size) := zm3 (by omega)
   have p2 : (10 : Int) ^ (z6y b).length <= 10 ^ (max a.size b.size) := zm3 (by omega)
   have p3 := z1l (B := 10) (by omega) _ h2
   have p4 := zob (max a.size b.size)
   have hc0 : c = 0 := by
    by_cases e : c = 0
    ·exact e
    ·have e1 : c = 1 := by omega
     rw [e1, Int.mul_one, Int.pow_succ] at h4
     omega
   subst hc0
   have hcond : (if (decide (((max a.size b.size + 1 : Nat) : Int) < (a.size : Int))) = true then some true else (if (decide (((max a.size b.size + 1 : Nat) : Int) < (b.size : Int))) = true then some true else some (decide ((0 : Int) > 0)))) = some false := by
    rw [decide_eq_false (by omega), decide_eq_false (by omega)]; rfl
   refine ⟨out, ?_, ?_, by omega, h2, by unfold numT; omega⟩
   ·show z35 K a b (k + 1) out 0 _ = _
    rw [z35, hcond]; rfl
   ·intro e; rw [e] at h1; simp at h1
 obtain ⟨r, h1, h2, h3, h4, h5⟩ := key
 obtain ⟨t, h6, h7, h8⟩ := zhz (K := K) h3 h2 (by omega) h4
 refine ⟨t, ?_, h7, by rw [h8, h5]⟩
 unfold z9n
 rw [h1]
 simp only [Option.bind_some, tu1, h6]
theorem zm4 {a b : zAd} (ha : a.size <= 1000000) (hb : b.size <= a.size) (h0 : 0 < a.size) (hK : 1048580 < K) (da : (z04 a).all digT = true) (db : (z04 b).all digT = true) (hle : numT b <= numT a) : ∃ t, z87 K a b = some t /\ CanT t /\ numT t = numT a - numT b := by
 have dx := z8n da
 have dy := z8n db
 have lx := z6k a
 have ly := z6k b
 have key : ∃ r, z34 K a b K [] 0 0 = some r /\ r ≠ [] /\ r.length <= 1048575 /\ DigB 10 r /\ valB 10 r = numT a - numT b := by
  refine zhy (S := List Int × Int) a.size (fun k s i => z34 K a b k s.1 s.2 i) (fun s i => s.1.length = i /\ DigB 10 s.1 /\ (0 <= s.2 /\ s.2 <= 1) /\ valB 10 s.1 + valB 10 ((z6y b).take i) = valB 10 ((z6y a).take i) + 10 ^ i * s.2) _ ?_ ?_ K ([], 0) (by omega) ⟨rfl, DigB.nil 10, ⟨by omega, by omega⟩, by simp [valB]⟩
  ·rintro k ⟨out, c⟩ i hi ⟨h1, h2, h3, h4⟩
   simp only at h1 h2 h3 h4
   right
   have ex := zoa (by omega) dx i
   have ey := zoa (by omega) dy i
   show ∃ s', _ /\ z34 K a b (k + 1) out c i = _
   rw [z34, z7j hi, if_pos rfl, za4 (by omega) da i (by omega), za4 (by omega) db i (by omega)]
   have tx := zg3 10 (z6y a) i
   have ty := zg3 10 (z6y b) i
   generalize (z6y a).getD i 0 = x at ex tx
   generalize (z6y b).getD i 0 = y at ey ty
   have e1 : z03 .i64 (x - y) = x - y := kw (by omega) (by omega)
   have e2 : z03 .i64 (x - y - c) = x - y - c := kw (by omega) (by omega)
   have e3 : z03 .i64 (x - y - c + 10) = x - y - c + 10 := kw (by omega) (by omega)
   simp only [Option.bind_some, e1, e2, e3, lt, tu2, List.length_cons, List.length_nil, kw1 hi (by omega)]
   have h9 : out.length + (0 + 1) <= 16777216 := by omega
   by_cases hn : x - y - c < 0
   ·refine ⟨(out ++ [x - y - c + 10], 1), ⟨by simp [h1], h2.app (fun d hd => by simp at hd; omega), ⟨by omega, by omega⟩, ?_⟩, ?_⟩
    ·simp only
     rw [z6x, h1, tx, ty, Int.pow_succ]
     simp only [valB, Int.mul_zero, Int.add_zero, Int.mul_one]
     generalize valB 10 ((z6y a).take i) = A at h4
     generalize valB 10 ((z6y b).take i) = B at h4
     generalize valB 10 out = C at h4
     generalize (10 : Int) ^ i = p at h4
     rw [Int.mul_add, Int.mul_sub, Int.mul_sub]
     omega
    ·rw [decide_eq_true hn]
     simp only [if_true, Option.bind_some, if_pos h9, tu2]
   ·refine ⟨(out ++ [x - y - c], 0), ⟨by simp [h1], h2.app (fun d hd => by simp at hd; omega), ⟨by omega, by omega⟩, ?_⟩, ?_⟩
    ·simp only
     rw [z6x, h1, tx, ty, Int.pow_succ]
     simp only [valB, Int.mul_zero, Int.add_zero]
     generalize valB 10 ((z6y a).take i) = A at h4
     generalize valB 10 ((z6y b).take i) = B at h4
     generalize valB 10 out = C at h4
     generalize (10 : Int) ^ i = p at h4
     rw [Int.mul_sub, Int.mul_sub]
     omega
    ·rw [decide_eq_false hn]
     simp only [Bool.false_eq_true, if_false, Option.bind_some, if_pos h9, tu2]
  ·rintro k ⟨out, c⟩ i rfl ⟨h1, h2, h3, h4⟩
   simp only at h1 h2 h3 h4
   rw [List.take_of_length_le (by omega), List.take_of_length_le (by omega)] at h4
   have p3 := z65 (B := 10) (by omega) _ h2
   rw [h1] at p3
   have hle' : valB 10 (z6y b) <= valB 10 (z6y a) := hle
   have hc0 : c = 0 := by
    by_cases e : c = 0
    ·exact e
    ·have e1 : c = 1 := by omega
     rw [e1, Int.mul_one] at h4
     omega
   subst hc0
   refine ⟨out, ?_, ?_, by omega, h2, by unfold numT; omega⟩
   ·show z34 K a b (k + 1) out 0 _ = _
    rw [z34, z4m (Nat.le_refl _)]; simp
   ·intro e; rw [e] at h1; simp at h1; omega
 obtain ⟨r, h1, h2, h3, h4, h5⟩ := key
 obtain ⟨t, h6, h7, h8⟩ := zhz (K := K) h3 h2 (by omega) h4
 refine ⟨t, ?_, h7, by rw [h8, h5]⟩
 unfold z87
 rw [h1]
 simp only [Option.bind_some, tu1, h6]
end Go.Am.Tryz
/- Plain law: the reference's comparison, product, quotient and divisor of texts. -/
namespace Go.Am.Tryz
open Go Go.Am Go.Proofs
variable {K : Nat}
theorem z4g {s : zAd} (h : (z04 s).all digT = true) : 0 <= numT s := z7e h
theorem ze0 {s : zAd} (h : (z04 s).all digT = true) : numT s < 10 ^ s.size := by
 have := zev h
 rwa [z02] at this
theorem zh5 {s : zAd} (h : CanT s) (h2 : 2 <= s.size) : (10 : Int) ^ (s.size - 1) <= numT s := by
 have hh : (z04 s).head? ≠ some 48 := fun e => by have := h.2.2 e; omega
 have h3 := zlw (B := 10) (by omega) (zfz h hh) (by intro e; have := z6k s; rw [e] at this; simp at this; omega)
 rwa [z6k] at h3
theorem ze1 {a b : zAd} (ha : (z04 a).all digT = true) (hb : CanT b) (h0 : a.size ≠ 0) (h : a.size < b.size) : numT a < numT b := by
 have h1 := ze0 ha
 have h2 := zh5 hb (by omega)
 have h3 : (10 : Int) ^ a.size <= 10 ^ (b.size - 1) := z8a (by omega) (by omega)
 omega
theorem z53 {a b : zAd} (ha : CanT a) (hb : CanT b) (h : numT b <= numT a) : b.size <= a.size := by
 refine Nat.not_lt.1 fun hl => ?_
 have := ze1 ha.2.1 hb ha.1 hl
 omega
theorem zg4 : CanT ⟨#[48]⟩ := ⟨by decide, rfl, fun _ => rfl⟩
theorem z8r : numT ⟨#[48]⟩ = 0 := rfl
theorem z9v : CanT ⟨#[49]⟩ := ⟨by decide, rfl, fun h => by simp [z04] at h⟩
theorem zc2 : numT ⟨#[49]⟩ = 1 := rfl
theorem ze2 {s : zAd} (h : CanT s) : numT s = 0 ↔ s = ⟨#[48]⟩ := ⟨fun e => zar h zg4 (by rw [e, z8r]), fun e => by rw [e, z8r]⟩
theorem zcg : ∀ (x y : List UInt8), x.length = y.length -> (x.map fun b => (b.toNat : Int)).all digT = true -> (y.map fun b => (b.toNat : Int)).all digT = true -> (Op.bytesLess x y = true ↔ numB (x.map fun b => (b.toNat : Int)) < numB (y.map fun b => (b.toNat : Int)))
 | [], [], _, _, _ => by simp [Op.bytesLess]
 | [], _ :: _, h, _, _ => by simp at h
 | _ :: _, [], h, _, _ => by simp at h
 | a :: x, b :: y, h, hx, hy => by
  simp only [List.map_cons, List.all_cons, Bool.and_eq_true] at hx hy
  simp only [List.length_cons, Nat.add_right_cancel_iff] at h
  have ih := zcg x y h hx.2 hy.2
  have dx := z8q.1 hx.1
  have dy := z8q.1 hy.1
  simp only [Op.bytesLess, List.map_cons, zg2, List.length_map, h]
  have lx0 := z7e hx.2
  have lx1 := zev hx.2
  have ly0 := z7e hy.2
  have ly1 := zev hy.2
  rw [List.length_map] at lx1 ly1
  rw [h] at lx1
  generalize numB (x.map fun b => (b.toNat : Int)) = X at *
  generalize numB (y.map fun b => (b.toNat : Int)) = Y at *
  have p0 : (0 : Int) < 10 ^ y.length := Int.pow_pos (by omega)
  generalize (10 : Int) ^ y.length = P at *
  rw [Bool.or_eq_true, Bool.and_eq_true, ih, decide_eq_true_eq, beq_iff_eq, UInt8.lt_iff_toNat_lt]
  rcases Nat.lt_trichotomy a.toNat b.toNat with h1 | h1 | h1
  ·have := z4e (Int.le_of_lt p0) (show ((a.toNat : Int) - 48) + 1 <= (b.toNat : Int) - 48 by omega)
   rw [Int.mul_add, Int.mul_one] at this
   exact ⟨fun _ => by omega, fun _ => .inl h1⟩
  ·have e : a = b := UInt8.toNat_inj.1 h1
   subst e
   exact ⟨fun h => by rcases h with h | h <;> omega, fun h => .inr ⟨rfl, by omega⟩⟩
  ·have := z4e (Int.le_of_lt p0) (show ((b.toNat : Int) - 48) + 1 <= (a.toNat : Int) - 48 by omega)
   rw [Int.mul_add, Int.mul_one] at this
   refine ⟨fun h => ?_, fun h => by omega⟩
   rcases h with h | ⟨h, _⟩
   ·omega
   ·subst h; omega
theorem zsc {a b : zAd} (h : a.size = b.size) (ha : (z04 a).all digT = true) (hb : (z04 b).all digT = true) : sLt a b = decide (numT a < numT b) := by
 have := zcg a.data.toList b.data.toList (by simpa using h) ha hb
 unfold sLt
 rw [ByteArray.toList_eq, ByteArray.toList_eq]
 by_cases c : numT a < numT b
 ·rw [decide_eq_true c]; exact this.2 c
 ·rw [decide_eq_false c]
  cases e : Op.bytesLess a.data.toList b.data.toList with
  | false => rfl
  | true => exact absurd (this.1 e) c
theorem zpb {a b : zAd} (ha : CanT a) (hb : CanT b) : z86 K a b = some (if numT a < numT b then -1 else if numT a = numT b then 0 else 1) := by
 unfold z86
 by_cases h1 : a.size < b.size
 ·have := ze1 ha.2.1 hb ha.1 h1
  simp (discharger := omega) only [runL]
 ·by_cases h2 : a.size > b.size
  ·have := ze1 hb.2.1 ha hb.1 h2
   simp (discharger := omega) only [runL]
  ·have he : a.size = b.size := by omega
   rw [if_neg (by simp; omega), if_neg (by simp; omega), zsc he ha.2.1 hb.2.1]
   by_cases c : numT a < numT b
   ·simp (discharger := omega) only [runL]
   ·by_cases d : numT a = numT b
    ·have : a = b := zar ha hb d
     subst this
     have e : sEq a a = true := z5z.2 rfl
     simp [e]
    ·have e : sEq a b = false := by
      cases e : sEq a b with
      | false => rfl
      | true => rw [z5z] at e; subst e; exact absurd rfl d
     simp [e, c, d]
theorem zsd {b : zAd} {out : List Int} {u : Int} {i : Nat} (hb : b.size <= 1000000) (hl : i + b.size < out.length) (ho : out.length <= 8000000) (hK : 2000000000 < K) (hu : 0 <= u /\ u <= 9) (db : (z04 b).all digT = true) (d0 : DigB 10 out) :
  ∃ r : List Int, z45 K b (i : Int) u K out 0 = some r /\ r.length = out.length /\ (∀ j, 0 <= r.getD j 0 /\ r.getD j 0 <= 90) /\ valB 10 r = valB 10 out + 10 ^ i * (u * numT b) := by
 have dx := z8n db
 have lx := z6k b
 refine zav (fun k (s : List Int × Int) => z45 K b (i : Int) u k s.1 s.2) (fun s => ∃ q : Nat, s.2 = q /\ q <= b.size /\ s.1.length = out.length /\ (∀ j, 0 <= s.1.getD j 0 /\ s.1.getD j 0 <= 90) /\ (∀ j, i + q <= j -> s.1.getD j 0 <= 9) /\ valB 10 s.1 = valB 10 out + 10 ^ i * (u * valB 10 ((z6y b).take q))) (fun s => (b.size - s.2 : Int).toNat) _ ?_ ((out, 0) : List Int × Int) (by simp; omega) ⟨0, rfl, by omega, rfl, fun j => by have := z2u (by omega) d0 j; dsimp only; omega, fun j _ => by have := z2u (by omega) d0 j; dsimp only; omega, by simp [valB]⟩
 rintro k ⟨o, _⟩ ⟨q, rfl, h0, h1, h2, h3, h4⟩
 dsimp only at h1 h2 h3 h4 ⊢
 by_cases hq : q < b.size
 ·right
  have ey := z2u (by omega) dx q
  have eo := h2 (i + q)
  have eo9 := h3 (i + q) (Nat.le_refl _)
  have ty := z49 10 (z6y b) q
  have hdg := za4 (K := K) (s := b) (by omega) db q (by omega)
  have hm : 0 <= u * (z6y b).getD q 0 /\ u * (z6y b).getD q 0 <= 81 := by
   have := z4e hu.1 (show (z6y b).getD q 0 <= 9 by omega)
   exact ⟨za8 hu.1 ey.1, by omega⟩
  have hset := fun d => z7y 10 o (i + q) d (by omega)
  have hgs := fun d j => z8o (cs := o) (i := i + q) (j := j) (v := d) (by omega)
  have e1 : ((i : Int) + (q : Int)) = ((i + q : Nat) : Int) := by omega
  generalize hw : u * (z6y b).getD q 0 = w at hm
  generalize ho : o.getD (i + q) 0 = z at eo eo9 hset
  refine ⟨(o.set (i + q) (z + w), (q : Int) + 1), ?_, by dsimp only; omega, q + 1, rfl, by omega, by simp [h1], fun j => ?_, fun j hj => ?_, ?_⟩
  ·rw [z45, hdg]
   simp (discharger := omega) only [runL, e1, hw, ho]
  ·dsimp only; rw [hgs]; split
   ·omega
   ·exact h2 j
  ·dsimp only; rw [hgs, if_neg (by omega)]; exact h3 j (by omega)
  ·dsimp only
   rw [hset, h4, ty, <- hw, Int.pow_add]
   grind
 ·left
  have : q = b.size := by omega
  subst this
  rw [List.take_of_length_le (by omega)] at h4
  exact ⟨o, by rw [z45]; simp (discharger := omega) only [runL], h1, h2, h4⟩
theorem zm5 {c v : List Int} (hv : v.length + 1 = c.length) (hl : c.length <= 8000000) (hK : 2000000000 < K) (hc : ∀ j, 0 <= c.getD j 0 /\ c.getD j 0 <= 90) :
  ∃ r : List Int, z3i K v K c 0 = some r /\ r.length = c.length /\ (∀ j, 0 <= r.getD j 0) /\ (∀ j < v.length, r.getD j 0 <= 9) /\ valB 10 r = valB 10 c := by
 refine zav (fun k (s : List Int × Int) => z3i K v k s.1 s.2) (fun s => ∃ i : Nat, s.2 = i /\ i <= v.length /\ s.1.length = c.length /\ (∀ j, 0 <= s.1.getD j 0 /\ s.1.getD j 0 <= 100) /\ (∀ j, i < j -> s.1.getD j 0 <= 90) /\ (∀ j < i, s.1.getD j 0 <= 9) /\ valB 10 s.1 = valB 10 c) (fun s => (v.length - s.2 : Int).toNat) _ ?_ ((c, 0) : List Int × Int) (by simp; omega) ⟨0, rfl, by omega, rfl, fun j => by have := hc j; dsimp only; omega, fun j _ => by have := hc j; dsimp only; omega, fun j hj => by omega, rfl⟩
 rintro k ⟨o, _⟩ ⟨i, rfl, h0, h1, h2, h3, h4, h5⟩
 dsimp only at h1 h2 h3 h4 h5 ⊢
 by_cases hi : i < v.length
 ·right
  have e1 : ((i : Int) + 1).toNat = i + 1 := by omega
  have b1 := h2 i
  have b2 := h2 (i + 1)
  have b3 := h3 (i + 1) (by omega)
  by_cases h9 : o.getD i 0 > 9
  ·generalize hz : o.getD i 0 = z at *
   generalize hz1 : o.getD (i + 1) 0 = z1 at *
   have hdm := Int.emod_add_mul_ediv z 10
   have hset := fun d => z7y 10 o (i + 1) d (by omega)
   have hset2 := fun d e => z7y 10 (o.set (i + 1) d) i e (by simp; omega)
   have hgs := fun d j => z8o (cs := o) (i := i + 1) (j := j) (v := d) (by omega)
   have hgs2 := fun d e j => z8o (cs := o.set (i + 1) d) (i := i) (j := j) (v := e) (by simp; omega)
   have hgi := fun d => hgs d i
   simp only [show ¬ i = i + 1 by omega, if_false, hz] at hgi
   have hsi : ∀ d, idx (o.set (i + 1) d) (i : Int) = some z := fun d => by rw [idxI (by omega) (by simp; omega), Int.toNat_natCast, hgi]
   refine ⟨((o.set (i + 1) (z1 + z / 10)).set i (z % 10), (i : Int) + 1), ?_, by dsimp only; omega, i + 1, rfl, by omega, by simp [h1], fun j => ?_, fun j hj => ?_, fun j hj => ?_, ?_⟩
   ·rw [z3i]
    simp (discharger := omega) only [runL, e1, hz, hz1, hsi]
   ·dsimp only; rw [hgs2, hgs]
    have := h2 j
    split
    ·omega
    ·split <;> omega
   ·dsimp only; rw [hgs2, hgs, if_neg (by omega), if_neg (by omega)]; exact h3 j (by omega)
   ·dsimp only; rw [hgs2]
    split
    ·omega
    ·rw [hgs, if_neg (by omega)]; exact h4 j (by omega)
   ·dsimp only
    rw [hset2, hset, hgi, hz1, h5, Int.pow_succ]
    grind
  ·refine ⟨(o, (i : Int) + 1), ?_, by dsimp only; omega, i + 1, rfl, by omega, h1, h2, fun j hj => h3 j (by omega), fun j hj => ?_, h5⟩
   ·have e : decide (o.getD i 0 > 9) = false := decide_eq_false h9
    rw [z3i]
    simp (discharger := omega) only [runL, e, Bool.false_eq_true]
   ·by_cases hj2 : j = i
    ·subst hj2; dsimp only; omega
    ·exact h4 j (by omega)
 ·left
  have : i = v.length := by omega
  subst this
  exact ⟨o, by rw [z3i]; simp (discharger := omega) only [runL], h1, fun j => (h2 j).1, h4, h5⟩
theorem kr1 {A B p q X : Int} : A * B + p * (q * B) = (A + p * q) * B := by grind
theorem zoc {a b : zAd} (ha : a.size <= 500000) (hb : b.size <= 500000) (hK : 2000000000 < K) (da : (z04 a).all digT = true) (db : (z04 b).all digT = true) :
  ∃ r : List Int, z46 K a b K (List.replicate (a.size + b.size + 1) 0) 0 = some r /\ r.length = a.size + b.size + 1 /\ DigB 10 r /\ valB 10 r = numT a * numT b := by
 have dx := z8n da
 have lx := z6k a
 refine zav (fun k (s : List Int × Int) => z46 K a b k s.1 s.2) (fun s => ∃ i : Nat, s.2 = i /\ i <= a.size /\ s.1.length = a.size + b.size + 1 /\ DigB 10 s.1 /\ valB 10 s.1 = valB 10 ((z6y a).take i) * numT b) (fun s => (a.size - s.2 : Int).toNat) _ ?_ ((List.replicate (a.size + b.size + 1) 0, 0) : List Int × Int) (by simp; omega) ⟨0, rfl, by omega, by simp, .zeros (by omega) _, by simp [valB, zbj]⟩
 rintro k ⟨o, _⟩ ⟨i, rfl, h0, h1, h2, h4⟩
 dsimp only at h1 h2 h4 ⊢
 by_cases hi : i < a.size
 ·right
  have ex := z2u (by omega) dx i
  have tx := z49 10 (z6y a) i
  have hdg := za4 (K := K) (s := a) (by omega) da i (by omega)
  obtain ⟨c, c1, c2, c3, c4⟩ := zsd (K := K) (b := b) (out := o) (u := (z6y a).getD i 0) (i := i) (by omega) (by omega) (by omega) hK ⟨ex.1, by omega⟩ db h2
  obtain ⟨v, hv⟩ : ∃ v, lsl c 0 ((c.length : Int) - 1) = some v := ⟨_, lslI (by omega) (by omega) (by omega)⟩
  have hvl : v.length + 1 = c.length := by
   rw [lslI (by omega) (by omega) (by omega)] at hv
   cases hv
   rw [List.length_take, List.length_drop]
   omega
  obtain ⟨r, r1, r2, r3, r4, r5⟩ := zm5 (K := K) (c := c) (v := v) hvl (by omega) hK c3
  have hval : valB 10 r = valB 10 ((z6y a).take (i + 1)) * numT b := by
   rw [r5, c4, h4, tx, kr1 (X := 0)]
  -- no digit is left over
  have htop : r.getD v.length 0 = 0 := by
   have s1 := z9u 10 r v.length (by omega)
   have dlow : DigB 10 (r.take v.length) := fun d hd => by
    obtain ⟨j, hj, rfl⟩ := List.mem_iff_getElem.1 hd
    rw [List.length_take] at hj
    have q1 := r3 j
    have q2 := r4 j (by omega)
    rw [List.getElem_take]
    rw [zAb, zAh (by omega)] at q1 q2
    simp at q1 q2
    omega
   have s2 := z1l (B := 10) (by omega) _ dlow
   have s3 : r.drop v.length = [r.getD v.length 0] := by
    rw [List.drop_eq_getElem_cons (by omega), List.drop_eq_nil_of_le (by omega), zAb, zAh (by omega)]; rfl
   rw [s3] at s1
   simp only [valB, Int.mul_zero, Int.add_zero] at s1
   have t1 := z65 (B := 10) (by omega) _ (dx.take (i + 1))
   have t2 := ze0 db
   have t3 := z4g db
   have t4 := z1l (B := 10) (by omega) _ (dx.take (i + 1))
   have t5 : (10 : Int) ^ ((z6y a).take (i + 1)).length <= 10 ^ a.size := z8a (by omega) (by rw [List.length_take]; omega)
   have t6 : valB 10 r < 10 ^ v.length := by
    rw [hval, show v.length = a.size + b.size by omega, Int.pow_add]
    have p0 : (0 : Int) < 10 ^ b.size := Int.pow_pos (by omega)
    have m1 := z4e t4 (show numT b <= 10 ^ b.size by omega)
    have m2 := Int.mul_lt_mul_of_pos_right (show valB 10 ((z6y a).take (i + 1)) < 10 ^ a.size by omega) p0
    omega
   refine Int.le_antisymm (Int.not_lt.1 fun hlt => ?_) (r3 _)
   have p0 : (0 : Int) < 10 ^ v.length := Int.pow_pos (by omega)
   have := z4e (Int.le_of_lt p0) (show 1 <= r.getD v.length 0 by omega)
   omega
  have dr : DigB 10 r := fun d hd => by
   obtain ⟨j, hj, rfl⟩ := List.mem_iff_getElem.1 hd
   have q1 := r3 j
   have q2 : r.getD j 0 <= 9 := by
    by_cases hjv : j < v.length
    ·exact r4 j hjv
    ·have : j = v.length := by omega
     subst this; omega
   rw [zAb, zAh hj] at q1 q2
   simp at q1 q2
   omega
  refine ⟨(r, (i : Int) + 1), ?_, by dsimp only; omega, i + 1, rfl, by omega, by dsimp only; omega, dr, hval⟩
  have hcl : (c.length : Int) - 1 = c.length - 1 := rfl
  rw [z46, hdg, if_pos (decide_eq_true (by omega)), z0n, c1, z0n, tu1a, k64 (by omega) (by omega), hv, z0n, r1, z0n, tu1a, k64 (by omega) (by omega)]
 ·left
  have : i = a.size := by omega
  subst this
  rw [List.take_of_length_le (by omega)] at h4
  exact ⟨o, by rw [z46]; simp (discharger := omega) only [runL], h1, h2, h4⟩
theorem zm6 {a b : zAd} (ha : a.size <= 500000) (hb : b.size <= 500000) (hK : 2000000000 < K) (da : (z04 a).all digT = true) (db : (z04 b).all digT = true) : ∃ t, z7o K a b = some t /\ CanT t /\ numT t = numT a * numT b := by
 obtain ⟨r, h1, h2, h3, h4⟩ := zoc ha hb hK da db
 obtain ⟨t, t1, t2, t3⟩ := zhz (K := K) (l := r) (by omega) (by intro e; rw [e] at h2; simp at h2) (by omega) h3
 refine ⟨t, ?_, t2, by rw [t3, h4]⟩
 unfold z7o
 have e1 : ((a.size : Int) + (b.size : Int) + 1) = ((a.size + b.size + 1 : Nat) : Int) := by omega
 simp (discharger := omega) only [runL, e1, h1, t1]
end Go.Am.Tryz
/- Plain law: long division of the program's numbers. -/
namespace Go.Am.Tryz
open Go Go.Am Go.Proofs
variable {K : Nat}
theorem zm7 (u : List Int) (i n : Nat) (h : i + n <= u.length) : valB 1000000000 u = valB 1000000000 (u.take i) + 1000000000 ^ i * (valB 1000000000 ((u.drop i).take n) + 1000000000 ^ n * valB 1000000000 (u.drop (i + n))) := by
 have h1 := z9u 1000000000 u i (by omega)
 have h2 := z9u 1000000000 (u.drop i) n (by rw [List.length_drop]; omega)
 rw [h1, h2, List.drop_drop]
theorem zpc {l : List Int} {i : Nat} (h : l.length <= i) : l.getD i 0 = 0 := by rw [zAb, List.getElem?_eq_none h]; rfl
theorem zqq {u v : List Int} {k : Nat} {q : Int} (hk : k + v.length + 1 <= u.length) (hl : u.length <= 8000000) (hK : 2000000000 < K) (hq : 0 <= q /\ q < 1000000000) (du : DigB 1000000000 u) (dv : DigB 1000000000 v) :
  ∃ (b : Int) (u' : List Int), z4u K u v k q = some (decide (b > 0), u') /\ (b = 0 \/ b = 1) /\ u'.length = u.length /\ DigB 1000000000 u' /\ u'.take k = u.take k /\ u'.drop (k + (v.length + 1)) = u.drop (k + (v.length + 1)) ∧
   valB 1000000000 u' = valB 1000000000 u - 1000000000 ^ k * (q * valB 1000000000 v) + 1000000000 ^ (k + (v.length + 1)) * b := by
 have key : ∃ r : List Int × Int, z26 K v k q K u 0 0 0 = some r /\ (r.2 = 0 \/ r.2 = 1) /\ r.1.length = u.length /\ DigB 1000000000 r.1 /\ r.1.take k = u.take k /\ r.1.drop (k + (v.length + 1)) = u.drop (k + (v.length + 1)) ∧
   valB 1000000000 r.1 = valB 1000000000 u - 1000000000 ^ k * (q * valB 1000000000 v) + 1000000000 ^ (k + (v.length + 1)) * r.2 := by
  refine zav (fun m (s : List Int × Int × Int × Int) => z26 K v k q m s.1 s.2.1 s.2.2.1 s.2.2.2) (fun s => ∃ i : Nat, s.2.2.2 = i /\ i <= v.length + 1 /\ s.1.length = u.length /\ DigB 1000000000 s.1 /\ (s.2.1 = 0 \/ s.2.1 = 1) /\ (0 <= s.2.2.1 /\ s.2.2.1 < 1000000000) /\ (i = v.length + 1 -> s.2.2.1 = 0) /\ s.1.take k = u.take k /\ s.1.drop (k + (v.length + 1)) = u.drop (k + (v.length + 1)) ∧
   valB 1000000000 s.1 = valB 1000000000 u - 1000000000 ^ k * (q * valB 1000000000 (v.take i)) + 1000000000 ^ (k + i) * (s.2.1 + s.2.2.1)) (fun s => (v.length + 1 - s.2.2.2 : Int).toNat) _ ?_ ((u, 0, 0, 0) : List Int × Int × Int × Int) (by simp; omega) ⟨0, rfl, by omega, rfl, du, .inl rfl, by simp, by simp, rfl, rfl, by simp [valB]⟩
  rintro m ⟨o, b, c, _⟩ ⟨i, rfl, h0, h1, h2, h3, h4, h5, h6, h7, h8⟩
  dsimp only at h1 h2 h3 h4 h5 h6 h7 h8 ⊢
  by_cases hi : i < v.length + 1
  ·right
   have ev := z2u (by omega) dv i
   have eo := z2u (by omega) h2 (k + i)
   have hm := zpa hq ev
   have tv := z49 1000000000 v i
   have e1 : ((k : Int) + (i : Int)) = ((k + i : Nat) : Int) := by omega
   have e2 : (1000000000 : Int) ^ (k + (i + 1)) = 1000000000 ^ k * 1000000000 ^ i * 1000000000 := by rw [<- Nat.add_assoc, Int.pow_succ, Int.pow_add]
   have hset := fun d => z7y 1000000000 o (k + i) d (by omega)
   have hz : ¬ i < v.length -> q * v.getD i 0 = 0 := fun h => by rw [zpc (by omega)]; simp
   generalize hw : q * v.getD i 0 = w at hm hz
   generalize ho : o.getD (k + i) 0 = z at eo hset
   have hdm := Int.emod_add_mul_ediv (c + w) 1000000000
   have htk : ∀ d, (o.set (k + i) d).take k = u.take k := fun d => by rw [List.take_set_of_le (by omega), h6]
   have hdr : ∀ d, (o.set (k + i) d).drop (k + (v.length + 1)) = u.drop (k + (v.length + 1)) := fun d => by rw [List.drop_set_of_lt (by omega), h7]
   have hc0 : i + 1 = v.length + 1 -> (c + w) / 1000000000 = 0 := fun h => by rw [hz (by omega)]; omega
   have hb2 : 0 <= b /\ b <= 1 := by rcases h3 with rfl | rfl <;> omega
   by_cases hn : z - (c + w) % 1000000000 - b < 0
   ·refine ⟨(o.set (k + i) (z - (c + w) % 1000000000 - b + 1000000000), 1, (c + w) / 1000000000, (i : Int) + 1), ?_, by dsimp only; omega, i + 1, rfl, by omega, by simp [h1], h2.set _ (by omega), .inr rfl, by dsimp only; omega, hc0, htk _, hdr _, ?_⟩
    ·rw [z26]
     by_cases h : i < v.length
     ·simp (discharger := omega) only [runL, e1, hw, ho]
     ·have e := hz h
      subst e
      simp only [Int.add_zero] at hn ⊢
      simp (discharger := omega) only [runL, e1, ho]
    ·dsimp only
     rw [hset, tv, e2]
     rw [Int.pow_add] at h8 ⊢
     subst hw
     generalize (c + q * v.getD i 0) / 1000000000 = Q at *
     generalize (c + q * v.getD i 0) % 1000000000 = R at *
     grind
   ·refine ⟨(o.set (k + i) (z - (c + w) % 1000000000 - b), 0, (c + w) / 1000000000, (i : Int) + 1), ?_, by dsimp only; omega, i + 1, rfl, by omega, by simp [h1], h2.set _ (by omega), .inl rfl, by dsimp only; omega, hc0, htk _, hdr _, ?_⟩
    ·rw [z26]
     by_cases h : i < v.length
     ·simp (discharger := omega) only [runL, e1, hw, ho]
     ·have e := hz h
      subst e
      simp only [Int.add_zero] at hn ⊢
      simp (discharger := omega) only [runL, e1, ho]
    ·dsimp only
     rw [hset, tv, e2]
     rw [Int.pow_add] at h8 ⊢
     subst hw
     generalize (c + q * v.getD i 0) / 1000000000 = Q at *
     generalize (c + q * v.getD i 0) % 1000000000 = R at *
     grind
  ·left
   have : i = v.length + 1 := by omega
   subst this
   have hc := h5 rfl
   subst hc
   rw [List.take_of_length_le (by omega), Int.add_zero] at h8
   exact ⟨(o, b), by rw [z26]; simp (discharger := omega) only [runL], h3, h1, h2, h6, h7, h8⟩
 obtain ⟨⟨u', b⟩, h1, h2⟩ := key
 exact ⟨b, u', by unfold z4u; rw [h1]; rfl, h2⟩
theorem zse {u v : List Int} {k : Nat} (hk : k + v.length + 1 <= u.length) (hl : u.length <= 8000000) (hK : 2000000000 < K) (du : DigB 1000000000 u) (dv : DigB 1000000000 v) :
  ∃ (u' : List Int) (b : Int), z5i K u v k = some u' /\ (b = 0 \/ b = 1) /\ u'.length = u.length /\ DigB 1000000000 u' /\ u'.take k = u.take k /\ u'.drop (k + (v.length + 1)) = u.drop (k + (v.length + 1)) ∧
   valB 1000000000 u' + 1000000000 ^ (k + (v.length + 1)) * b = valB 1000000000 u + 1000000000 ^ k * valB 1000000000 v := by
 have key : ∃ r : List Int, z33 K v k K u 0 0 = some r /\ ∃ b : Int, (b = 0 \/ b = 1) /\ r.length = u.length /\ DigB 1000000000 r /\ r.take k = u.take k /\ r.drop (k + (v.length + 1)) = u.drop (k + (v.length + 1)) ∧
   valB 1000000000 r + 1000000000 ^ (k + (v.length + 1)) * b = valB 1000000000 u + 1000000000 ^ k * valB 1000000000 v := by
  refine zav (fun m (s : List Int × Int × Int) => z33 K v k m s.1 s.2.1 s.2.2) (fun s => ∃ i : Nat, s.2.2 = i /\ i <= v.length + 1 /\ s.1.length = u.length /\ DigB 1000000000 s.1 /\ (s.2.1 = 0 \/ s.2.1 = 1) /\ s.1.take k = u.take k /\ s.1.drop (k + (v.length + 1)) = u.drop (k + (v.length + 1)) ∧
   valB 1000000000 s.1 + 1000000000 ^ (k + i) * s.2.1 = valB 1000000000 u + 1000000000 ^ k * valB 1000000000 (v.take i)) (fun s => (v.length + 1 - s.2.2 : Int).toNat) _ ?_ ((u, 0, 0) : List Int × Int × Int) (by simp; omega) ⟨0, rfl, by omega, rfl, du, .inl rfl, rfl, rfl, by simp [valB]⟩
  rintro m ⟨o, b, _⟩ ⟨i, rfl, h0, h1, h2, h3, h6, h7, h8⟩
  dsimp only at h1 h2 h3 h6 h7 h8 ⊢
  by_cases hi : i < v.length + 1
  ·right
   have ev := z2u (by omega) dv i
   have eo := z2u (by omega) h2 (k + i)
   have tv := z49 1000000000 v i
   have e1 : ((k : Int) + (i : Int)) = ((k + i : Nat) : Int) := by omega
   have e2 : (1000000000 : Int) ^ (k + (i + 1)) = 1000000000 ^ k * 1000000000 ^ i * 1000000000 := by rw [<- Nat.add_assoc, Int.pow_succ, Int.pow_add]
   have hset := fun d => z7y 1000000000 o (k + i) d (by omega)
   have hz : ¬ i < v.length -> v.getD i 0 = 0 := fun h => zpc (by omega)
   generalize hw : v.getD i 0 = w at ev hz tv
   generalize ho : o.getD (k + i) 0 = z at eo hset
   have hdm := Int.emod_add_mul_ediv (z + b + w) 1000000000
   have htk : ∀ d, (o.set (k + i) d).take k = u.take k := fun d => by rw [List.take_set_of_le (by omega), h6]
   have hdr : ∀ d, (o.set (k + i) d).drop (k + (v.length + 1)) = u.drop (k + (v.length + 1)) := fun d => by rw [List.drop_set_of_lt (by omega), h7]
   have hb2 : 0 <= b /\ b <= 1 := by rcases h3 with rfl | rfl <;> omega
   refine ⟨(o.set (k + i) ((z + b + w) % 1000000000), (z + b + w) / 1000000000, (i : Int) + 1), ?_, by dsimp only; omega, i + 1, rfl, by omega, by simp [h1], h2.set _ (by omega), by dsimp only; omega, htk _, hdr _, ?_⟩
   ·rw [z33]
    by_cases h : i < v.length
    ·simp (discharger := omega) only [runL, e1, hw, ho]
    ·have e := hz h
     subst e
     simp only [Int.add_zero] at hdm ⊢
     simp (discharger := omega) only [runL, e1, ho]
   ·dsimp only
    rw [hset, tv, e2]
    rw [Int.pow_add] at h8
    generalize (z + b + w) / 1000000000 = Q at *
    generalize (z + b + w) % 1000000000 = R at *
    grind
  ·left
   have : i = v.length + 1 := by omega
   subst this
   rw [List.take_of_length_le (by omega)] at h8
   exact ⟨o, by rw [z33]; simp (discharger := omega) only [runL], b, h3, h1, h2, h6, h7, h8⟩
 obtain ⟨u', h1, b, h2⟩ := key
 exact ⟨u', b, by unfold z5i; rw [h1]; rfl, h2⟩
theorem zqr {u v : List Int} {k : Nat} {P vl top ul q g r : Int} (hn : 2 <= v.length) (hk : k + v.length + 1 <= u.length) (hl : u.length <= 8000000) (hK : 2000000000 < K)
  (h : Kn 1000000000 P (v.getD (v.length - 1) 0) (v.getD (v.length - 2) 0) vl top (u.getD (k + v.length - 2) 0) ul q) (hv : v.getD (v.length - 1) 0 < 1000000000) (ht : top < 1000000000 * v.getD (v.length - 1) 0 + 1000000000) (hr : top = g * v.getD (v.length - 1) 0 + r) (hg : q <= g) (hg2 : g < 2000000000) (hr0 : 0 <= r /\ r < 1000000000) :
  ∃ g', z2y K v u k K g r = some g' /\ q <= g' /\ g' <= q + 1 /\ g' < 1000000000 := by
 generalize hv1 : v.getD (v.length - 1) 0 = v1 at *
 generalize hv2 : v.getD (v.length - 2) 0 = v2 at *
 generalize hu3 : u.getD (k + v.length - 2) 0 = u3 at *
 have a1 := h.v1p
 have a2 := h.v2p
 have a3 := h.v2b
 have a4 := h.u3p
 have a5 := h.u3b
 have a6 := h.q0
 have a7 := h.qB
 refine zav (fun m (s : Int × Int) => z2y K v u k m s.1 s.2) (fun s => top = s.1 * v1 + s.2 /\ q <= s.1 /\ s.1 < 2000000000 /\ 0 <= s.2 /\ s.2 < 1000000000) (fun s => (1000000000 - s.2).toNat) _ ?_ ((g, r) : Int × Int) ?_ ⟨hr, hg, hg2, hr0.1, hr0.2⟩
 ·rintro m ⟨g, r⟩ ⟨b1, b2, b3, b4, b5⟩
  dsimp only at b1 b2 b3 b4 b5 ⊢
  have f1 : idx v (z03 .i64 ((v.length : Int) - 1)) = some v1 := by
   rw [k64 (by omega) (by omega), idxI (by omega) (by omega), <- hv1]; congr 2; omega
  have f2 : idx v (z03 .i64 ((v.length : Int) - 2)) = some v2 := by
   rw [k64 (by omega) (by omega), idxI (by omega) (by omega), <- hv2]; congr 2; omega
  have f3 : idx u (z03 .i64 (z03 .i64 ((k : Int) + (v.length : Int)) - 2)) = some u3 := by
   rw [k64 (a := (k : Int) + (v.length : Int)) (by omega) (by omega), k64 (by omega) (by omega), idxI (by omega) (by omega), <- hu3]; congr 2; omega
  have m1 : 0 <= g * v2 := za8 (by omega) a2
  have m2 := z4e (show 0 <= g by omega) (show v2 <= 999999999 by omega)
  rw [z2y, f1, f2]
  generalize hw : g * v2 = w at m1 m2
  by_cases c : g >= 1000000000 \/ w > r * 1000000000 + u3
  ·have hqg : q < g := by
    rcases c with c | c
    ·omega
    ·exact h.down b1 (by omega) (by omega)
   have hc : (if (decide (g >= 1000000000)) = true then some true else ((some v2).bind fun x235 => (lt (z03 .i64 ((z03 .i64 ((k : Int) + (v.length : Int))) - 2)) fun x239 => ((idx u x239).bind fun x242 => (lt (z03 .u64 ((z03 .u64 (r * 1000000000)) + (IntKind.wrap .u64 x242))) fun x246 => (lt (decide ((z03 .u64 (g * (IntKind.wrap .u64 x235))) > x246)) fun x249 => some x249)))))) = some true := by
    by_cases c1 : g >= 1000000000
    ·rw [decide_eq_true c1]; rfl
    ·rw [decide_eq_false c1]
     simp only [z0n, lta, Bool.false_eq_true, if_false, f3]
     rw [u64w (a := v2) (by omega) (by omega), hw, u64w (a := u3) (by omega) (by omega), ku64 (a := w) (by omega) (by omega), ku64 (a := r * 1000000000) (by omega) (by omega), ku64 (a := r * 1000000000 + u3) (by omega) (by omega), decide_eq_true (by omega)]
   rw [hc]
   by_cases c2 : r + v1 >= 1000000000
   ·left
    have hgB : g <= 1000000000 := by
     refine Int.not_lt.1 fun hlt => ?_
     have := z4e (show 0 <= v1 by omega) (show 1000000001 <= g by omega)
     rw [Int.mul_comm v1 g] at this
     omega
    have hx := h.exitB (g := g - 1) (r := r + v1) (by rw [Int.sub_mul]; omega) (by omega) (by omega) c2
    refine ⟨g - 1, ?_, by omega, by omega, by omega⟩
    simp (discharger := omega) only [runL]
   ·right
    refine ⟨(g - 1, r + v1), ?_, by dsimp only; omega, by dsimp only; rw [Int.sub_mul]; omega, by dsimp only; omega, by dsimp only; omega, by dsimp only; omega, by dsimp only; omega⟩
    have e : decide (r + v1 >= 1000000000) = false := decide_eq_false c2
    simp (discharger := omega) only [runL, e, Bool.false_eq_true]
  ·left
   have c1 : ¬ g >= 1000000000 := fun x => c (.inl x)
   have c3 : ¬ w > r * 1000000000 + u3 := fun x => c (.inr x)
   have hx := h.exitA b1 (by omega) (by omega) (by omega)
   refine ⟨g, ?_, b2, hx, by omega⟩
   rw [decide_eq_false c1]
   simp only [z0n, lta, Bool.false_eq_true, if_false, f3]
   rw [u64w (a := v2) (by omega) (by omega), hw, u64w (a := u3) (by omega) (by omega), ku64 (a := w) (by omega) (by omega), ku64 (a := r * 1000000000) (by omega) (by omega), ku64 (a := r * 1000000000 + u3) (by omega) (by omega), decide_eq_false c3]
   simp only [z0n, tu1a, Bool.false_eq_true, if_false]
 ·dsimp only; omega
end Go.Am.Tryz
/- Plain law: quotient and remainder, greatest common divisor of the program's numbers. -/
namespace Go.Am.Tryz
open Go Go.Am Go.Proofs
variable {K : Nat}
theorem zm8 (u : List Int) (i j : Nat) : (u.drop i).getD j 0 = u.getD (i + j) 0 := by
 rw [zAb, List.getElem?_drop, zAb]
section
variable {p X Y V M HI LO U g q b c rr M1 M2 U1 U2 P v1 v2 vl t1 t2 t3 ul top : Int}
theorem kd1 : vl + P * v2 + P * 1000000000 * v1 = P * (1000000000 * v1 + v2) + vl := by grind
theorem kd2 : ul + P * t3 + P * 1000000000 * t2 + P * 1000000000 * 1000000000 * t1 = P * (1000000000 * (t1 * 1000000000 + t2) + t3) + ul := by grind
theorem kd3 (hu : U < p * 1000000000 * V) (hm : U = LO + p * (M + Y * 1000000000 * HI)) (h0 : 0 <= LO) (p0 : 0 < p) (Y0 : 0 < Y) (hV : V < Y) (hM : 0 <= M) (hH : 0 <= HI) : HI = 0 := by
 refine Int.le_antisymm (Int.not_lt.1 fun hlt => ?_) hH
 have a1 := z4e (Int.le_of_lt Y0) (show 1 <= HI by omega)
 have a2 := z4e (Int.le_of_lt p0) (show V + 1 <= Y by omega)
 have a3 := z4e (Int.le_of_lt p0) (show Y * 1000000000 <= M + Y * 1000000000 * HI by grind)
 grind
theorem kd4 (hu : U < p * 1000000000 * V) (hm : U = LO + p * (M + X * 0)) (h0 : 0 <= LO) (p0 : 0 < p) : M < 1000000000 * V := by
 refine Int.not_le.1 fun hle => ?_
 have a1 := z4e (Int.le_of_lt p0) hle
 grind
theorem kd5 (h : rr + V * q = M) (h0 : 0 <= rr) : q * V <= M := by grind
theorem kd5' (h : rr + V * q = M) (h0 : rr < V) : M < (q + 1) * V := by grind
theorem kd6 (hM : M = P * (1000000000 * top + t3) + ul) (hV : V = P * (1000000000 * v1 + v2) + vl) (h : M < 1000000000 * V) (P0 : 0 < P) (b2 : v2 < 1000000000) (b3 : 0 <= t3) (u0 : 0 <= ul) (vb : vl < P) : top < 1000000000 * v1 + 1000000000 := by
 refine Int.not_le.1 fun hle => ?_
 have a1 := z4e (Int.le_of_lt P0) (z4e (show (0:Int) <= 1000000000 by omega) hle)
 have a2 := z4e (Int.le_of_lt P0) (show v2 <= 999999999 by omega)
 have a3 := za8 (Int.le_of_lt P0) b3
 subst hM hV
 grind
theorem kd7 (p0 : 0 < p) (h1 : U1 = LO + p * (M1 + X * 0)) (h2 : U1 = U - p * (g * V) + p * X * b) (h3 : U = LO + p * (M + X * 0)) : M1 = M - g * V + X * b := by
 have : p * M1 = p * (M - g * V + X * b) := by grind
 exact Int.eq_of_mul_eq_mul_left (by omega) this
theorem kd8 (h : rr + V * q = M) (h1 : rr < V) (hV : 0 < V) (hm : M1 = M - g * V + X * 0) (h0 : 0 <= M1) (hq : q <= g) : g = q := by
 refine Int.le_antisymm (Int.not_lt.1 fun hlt => ?_) hq
 have a1 := z4e (Int.le_of_lt hV) (show q + 1 <= g by omega)
 grind
theorem kd9 (h : rr + V * q = M) (h0 : 0 <= rr) (hm : M1 = M - g * V + X * 1) (h1 : M1 < X) (hq : q <= g) (hq1 : g <= q + 1) : g = q + 1 := by
 refine Int.le_antisymm hq1 (Int.not_lt.1 fun hlt => ?_)
 have : g = q := by omega
 subst this
 grind
theorem kd10 (p0 : 0 < p) (h1 : U2 = LO + p * (M2 + X * 0)) (h2 : U2 + p * X * c = U1 + p * V) (h3 : U1 = LO + p * (M1 + X * 0)) (h4 : M1 = M - (q + 1) * V + X * 1) : M2 = M - q * V + X * (1 - c) := by
 have : p * M2 = p * (M - q * V + X * (1 - c)) := by grind
 exact Int.eq_of_mul_eq_mul_left (by omega) this
theorem kd11 (h : rr + V * q = M) (h0 : 0 <= rr) (hm : M2 = M - q * V + X * (1 - c)) (h1 : M2 < X) (hc : c = 0 \/ c = 1) : c = 1 := by
 rcases hc with rfl | rfl
 ·grind
 ·rfl
theorem kd12 (h1 : U1 = LO + p * (M1 + X * 0)) (hm : M1 = M - q * V) (h3 : U = LO + p * (M + X * 0)) : U1 + p * (q * V) = U := by grind
theorem kd13 (p0 : 0 < p) (h1 : U1 = LO + p * (M1 + X * 0)) (hm : M1 = M - q * V) (h : rr + V * q = M) (hr : rr < V) (hl : LO < p) : U1 < p * V := by
 have a1 := z4e (Int.le_of_lt p0) (show M1 + 1 <= V by grind)
 grind
end
theorem zm9 {u v : List Int} {i : Nat} (hn : 2 <= v.length) (hk : i + v.length + 1 <= u.length) (hl : u.length <= 8000000) (hK : 2000000000 < K) (du : DigB 1000000000 u) (cv : CanB 1000000000 v) (hu : valB 1000000000 u < 1000000000 ^ (i + 1) * valB 1000000000 v) :
  ∃ g b u1 u2 q, z2y K v u i K ((u.getD (i + v.length) 0 * 1000000000 + u.getD (i + v.length - 1) 0) / v.getD (v.length - 1) 0) ((u.getD (i + v.length) 0 * 1000000000 + u.getD (i + v.length - 1) 0) % v.getD (v.length - 1) 0) = some g /\ 0 <= g /\ g < 1000000000 ∧
   z4u K u v i g = some (b, u1) /\ (b = true -> z5i K u1 v i = some u2 /\ q = g - 1) /\ (b = false -> u2 = u1 /\ q = g) /\ 0 <= q /\ q < 1000000000 /\ u2.length = u.length /\ DigB 1000000000 u2 ∧
   valB 1000000000 u2 + 1000000000 ^ i * (q * valB 1000000000 v) = valB 1000000000 u /\ valB 1000000000 u2 < 1000000000 ^ i * valB 1000000000 v /\ 1 <= v.getD (v.length - 1) 0 /\ v.getD (v.length - 1) 0 < 1000000000 := by
 obtain ⟨n, hnv⟩ : ∃ n, v.length = n + 2 := ⟨v.length - 2, by omega⟩
 have dv := cv.1
 have ev1 := z2u (by omega) dv (n + 1)
 have ev2 := z2u (by omega) dv n
 have et1 := z2u (by omega) du (i + n + 2)
 have et2 := z2u (by omega) du (i + n + 1)
 have et3 := z2u (by omega) du (i + n)
 -- the divisor's leading digits
 have hv1 : 1 <= v.getD (n + 1) 0 := by
  have : v.getD (n + 1) 0 ≠ 0 := fun e => cv.2 (by
   rw [List.getLast?_eq_getElem?, hnv]
   have hi : n + 2 - 1 < v.length := by omega
   rw [zAb, zAh (by omega)] at e
   rw [zAh hi]
   simp at e ⊢
   exact e)
  omega
 have hV : valB 1000000000 v = 1000000000 ^ n * (1000000000 * v.getD (n + 1) 0 + v.getD n 0) + valB 1000000000 (v.take n) := by
  have h1 := z49 1000000000 v n
  have h2 := z49 1000000000 v (n + 1)
  rw [List.take_of_length_le (by omega)] at h2
  rw [h2, h1, Int.pow_succ, kd1]
 have hVn : valB 1000000000 v < 1000000000 ^ (n + 2) := by rw [<- hnv]; exact z65 (by omega) v dv
 -- the middle of what is divided
 have hmid := zm7 u i (n + 3) (by omega)
 have hM : valB 1000000000 ((u.drop i).take (n + 3)) = 1000000000 ^ n * (1000000000 * (u.getD (i + n + 2) 0 * 1000000000 + u.getD (i + n + 1) 0) + u.getD (i + n) 0) + valB 1000000000 ((u.drop i).take n) := by
  have h1 := z49 1000000000 (u.drop i) n
  have h2 := z49 1000000000 (u.drop i) (n + 1)
  have h3 := z49 1000000000 (u.drop i) (n + 2)
  rw [zm8] at h1 h2 h3
  rw [h3, h2, h1, Int.pow_succ 1000000000 (n + 1), Int.pow_succ 1000000000 n, <- Nat.add_assoc, <- Nat.add_assoc, kd2]
 have dlo := du.take i
 have lo0 := z1l (B := 1000000000) (by omega) _ dlo
 have lo1 := z65 (B := 1000000000) (by omega) _ dlo
 rw [List.length_take, Nat.min_eq_left (by omega)] at lo1
 have dmi := (du.drop i).take (n + 3)
 have mi0 := z1l (B := 1000000000) (by omega) _ dmi
 have dhi := du.drop (i + (n + 3))
 have hi0 := z1l (B := 1000000000) (by omega) _ dhi
 have p0 : 0 < (1000000000 : Int) ^ i := Int.pow_pos (by omega)
 have pn0 : 0 < (1000000000 : Int) ^ n := Int.pow_pos (by omega)
 have pn3 : 0 < (1000000000 : Int) ^ (n + 3) := Int.pow_pos (by omega)
 have ep1 : (1000000000 : Int) ^ (i + 1) = 1000000000 ^ i * 1000000000 := Int.pow_succ _ _
 have ep3 : (1000000000 : Int) ^ (n + 3) = 1000000000 ^ (n + 2) * 1000000000 := Int.pow_succ _ _
 have dul := (du.drop i).take n
 have ul0 := z1l (B := 1000000000) (by omega) _ dul
 have ul1 := z65 (B := 1000000000) (by omega) _ dul
 rw [List.length_take, List.length_drop, Nat.min_eq_left (by omega)] at ul1
 have dvl := dv.take n
 have vl0 := z1l (B := 1000000000) (by omega) _ dvl
 have vl1 := z65 (B := 1000000000) (by omega) _ dvl
 rw [List.length_take, Nat.min_eq_left (by omega)] at vl1
 have hmin := fun (g : Int) (hg : 0 <= g /\ g < 1000000000) => zqq (K := K) (u := u) (v := v) (k := i) (q := g) hk hl hK hg du dv
 have hplu := fun (u1 : List Int) (h1 : u1.length = u.length) (d1 : DigB 1000000000 u1) => zse (K := K) (u := u1) (v := v) (k := i) (by omega) (by omega) hK d1 dv
 rw [show i + v.length = i + n + 2 by omega, show i + n + 2 - 1 = i + n + 1 by omega, show v.length - 1 = n + 1 by omega]
 generalize hVV : valB 1000000000 v = V at *
 generalize hMM : valB 1000000000 ((u.drop i).take (n + 3)) = M at *
 generalize hLL : valB 1000000000 (u.take i) = LO at *
 generalize hHH : valB 1000000000 (u.drop (i + (n + 3))) = HI at *
 have hV0 : 0 < V := by
  have := z4e (Int.le_of_lt pn0) (show 1 <= 1000000000 * v.getD (n + 1) 0 + v.getD n 0 by omega)
  omega
 have hHI : HI = 0 := by
  rw [ep3] at hmid
  rw [ep1] at hu
  exact kd3 hu hmid lo0 p0 (Int.pow_pos (by omega)) hVn mi0 hi0
 rw [hHI] at hmid
 have hMV : M < 1000000000 * V := by
  rw [ep1] at hu
  exact kd4 hu hmid lo0 p0
 -- the true digit
 have q0 : 0 <= M / V := Int.ediv_nonneg mi0 (by omega)
 have qB : M / V < 1000000000 := Int.ediv_lt_of_lt_mul hV0 hMV
 have hdm := Int.emod_add_mul_ediv M V
 have r0 := Int.emod_nonneg M (show V ≠ 0 by omega)
 have r1 := Int.emod_lt_of_pos M hV0
 generalize hq : M / V = q at *
 generalize M % V = rr at *
 have hkn : Kn 1000000000 (1000000000 ^ n) (v.getD (n + 1) 0) (v.getD n 0) (valB 1000000000 (v.take n)) (u.getD (i + n + 2) 0 * 1000000000 + u.getD (i + n + 1) 0) (u.getD (i + n) 0) (valB 1000000000 ((u.drop i).take n)) q := by
  refine ⟨by omega, pn0, hv1, ev2.1, ev2.2, vl0, vl1, by omega, et3.1, et3.2, ul0, ul1, q0, qB, ?_, ?_⟩
  ·rw [<- hM, <- hV]; exact kd5 hdm r0
  ·rw [<- hM, <- hV]; exact kd5' hdm r1
 have ht : u.getD (i + n + 2) 0 * 1000000000 + u.getD (i + n + 1) 0 < 1000000000 * v.getD (n + 1) 0 + 1000000000 := kd6 hM hV hMV pn0 ev2.2 et3.1 ul0 vl1
 generalize htop : u.getD (i + n + 2) 0 * 1000000000 + u.getD (i + n + 1) 0 = top at *
 have htd := Int.emod_add_mul_ediv top (v.getD (n + 1) 0)
 have hfirst := hkn.first
 have g2 : top / v.getD (n + 1) 0 < 2000000000 := Int.ediv_lt_of_lt_mul (by omega) (by omega)
 have rt0 := Int.emod_nonneg top (show v.getD (n + 1) 0 ≠ 0 by omega)
 have rt1 := Int.emod_lt_of_pos top (show 0 < v.getD (n + 1) 0 by omega)
 obtain ⟨g, w1, w2, w3, w4⟩ := zqr (K := K) (u := u) (v := v) (k := i) (P := 1000000000 ^ n) (vl := valB 1000000000 (v.take n)) (top := top) (ul := valB 1000000000 ((u.drop i).take n)) (q := q) (g := top / v.getD (n + 1) 0) (r := top % v.getD (n + 1) 0) hn hk hl hK
  (by rw [hnv, show n + 2 - 1 = n + 1 by omega, show n + 2 - 2 = n by omega, show i + (n + 2) - 2 = i + n by omega]; exact hkn) (by rw [hnv, show n + 2 - 1 = n + 1 by omega]; omega) (by rw [hnv, show n + 2 - 1 = n + 1 by omega]; omega) (by rw [hnv, show n + 2 - 1 = n + 1 by omega, Int.mul_comm]; omega) hfirst g2 (by omega)
 obtain ⟨b, u1, m1, m2, m3, m4, m5, m6, m7⟩ := hmin g (by omega)
 have hmid1 := zm7 u1 i (n + 3) (by omega)
 have dm1 := (m4.drop i).take (n + 3)
 have m10 := z1l (B := 1000000000) (by omega) _ dm1
 have m11 := z65 (B := 1000000000) (by omega) _ dm1
 rw [List.length_take, List.length_drop, Nat.min_eq_left (by omega)] at m11
 rw [show i + (n + 3) = i + (v.length + 1) by omega, m6, show i + (v.length + 1) = i + (n + 3) by omega, hHH, hHI, m5, hLL] at hmid1
 rw [show i + (v.length + 1) = i + (n + 3) by omega, Int.pow_add] at m7
 generalize hM1 : valB 1000000000 ((u1.drop i).take (n + 3)) = M1 at *
 have hM1e : M1 = M - g * V + 1000000000 ^ (n + 3) * b := kd7 p0 hmid1 m7 hmid
 rcases m2 with rfl | rfl
 ·-- no borrow: the guess was right
  have hgq : g = q := kd8 hdm r1 hV0 hM1e m10 w2
  subst hgq
  have hM1f : M1 = M - g * V := by rw [hM1e]; omega
  exact ⟨g, false, u1, u1, g, w1, q0, w4, by simpa using m1, by simp, by simp, q0, qB, m3, m4, kd12 hmid1 hM1f hmid, kd13 p0 hmid1 hM1f hdm r1 lo1, hv1, ev1.2⟩
 ·have hgq : g = q + 1 := kd9 hdm r0 hM1e m11 w2 w3
  subst hgq
  obtain ⟨u2, c, s1, s2, s3, s4, s5, s6, s7⟩ := hplu u1 m3 m4
  have hmid2 := zm7 u2 i (n + 3) (by omega)
  have dm2 := (s4.drop i).take (n + 3)
  have m20 := z1l (B := 1000000000) (by omega) _ dm2
  have m21 := z65 (B := 1000000000) (by omega) _ dm2
  rw [List.length_take, List.length_drop, Nat.min_eq_left (by omega)] at m21
  rw [show i + (n + 3) = i + (v.length + 1) by omega, s6, m6, show i + (v.length + 1) = i + (n + 3) by omega, hHH, hHI, s5, m5, hLL] at hmid2
  rw [show i + (v.length + 1) = i + (n + 3) by omega, Int.pow_add] at s7
  generalize hM2 : valB 1000000000 ((u2.drop i).take (n + 3)) = M2 at *
  have hM2e : M2 = M - q * V + 1000000000 ^ (n + 3) * (1 - c) := kd10 p0 hmid2 s7 hmid1 hM1e
  have hc : c = 1 := kd11 hdm r0 hM2e m21 s2
  subst hc
  have hM2f : M2 = M - q * V := by rw [hM2e]; omega
  exact ⟨q + 1, true, u1, u2, q, w1, by omega, w4, by simpa using m1, fun _ => ⟨s1, by omega⟩, by simp, q0, qB, by omega, s4, kd12 hmid2 hM2f hmid, kd13 p0 hmid2 hM2f hdm r1 lo1, hv1, ev1.2⟩
end Go.Am.Tryz
