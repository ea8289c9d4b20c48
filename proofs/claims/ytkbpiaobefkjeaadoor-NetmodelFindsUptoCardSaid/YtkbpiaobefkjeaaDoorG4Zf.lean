/- Typed functions with the same answers as the program's, and the walks that show it. -/
import Derived.Test.YtkbpiaobefkjeaaDoorG2Zf
import Derived.Test.YtkbpiaobefkjeaaDoorG3Zf
import Derived.Lib.IndexMore
import Derived.Lib.Fields
set_option maxRecDepth 100000
set_option maxHeartbeats 8000000
set_option linter.unusedVariables false
set_option linter.unusedSimpArgs false
namespace Go.Am.Tryd
open Go Go.Am Go.Proofs
variable (K : Nat) {G : GM} {H : AH} {L : List Pc}
def z4l (K : Nat) (a : Network) : Nat -> Int -> Int -> Option (Int × Int)
  | 0, _, _ => none
  | k + 1, b, c => ((idx [(a.Switches.length : Int), (a.Branches.length : Int), (a.Gens.length : Int), (a.Loads.length : Int), (a.Stores.length : Int)] b).bind fun d => (if (c == d) = true then z4l K a k (z0u .i64 (b + 1)) 0 else some (b, c)))
def z59 (K : Nat) (f : zAd) (a : List Item) (g : Network) : Nat -> Int -> Int -> Int -> Option ((zAd × Int) ⊕ Unit)
  | 0, _, _, _ => none
  | k + 1, h, i, b => (if (decide (b < (a.length : Int))) = true then ((idx a b).bind fun j => (Option.bind (z4l K g K h i) (tu2 fun c d => (if (sEq j.name f) = true then ((idx [(⟨#[115, 119, 105, 116, 99, 104]⟩ : zAd), (⟨#[98, 114, 97, 110, 99, 104]⟩ : zAd), (⟨#[103, 101, 110]⟩ : zAd), (⟨#[108, 111, 97, 100]⟩ : zAd), (⟨#[115, 116, 111, 114, 101]⟩ : zAd)] c).bind fun e => some (.inl (e, d))) else z59 K f a g k c (z0u .i64 (d + 1)) (z0u .i64 (b + 1)))))) else some (.inr ()))
def z9e (K : Nat) (a : Network) (d : zAd) : Option (zAd × Int) := ((z7c K a.Nodes d).bind fun e => (if (decide (e >= 0)) = true then some ((⟨#[110, 111, 100, 101]⟩ : zAd), e) else ((z83 K a).bind fun f => (z66 (z59 K d f a K 0 0 0) (tu2 fun b c => some (b, c)) (tu0 (some ((⟨#[]⟩ : zAd), 0)))))))
theorem zda (aG : List Value) (a : Network) (aZ : z00.rep G aG a) (x : zAd) (O : Ow G H (L)) (r : zAd × Int) (h : z9e K a x = some r) :
    CR Tryd.prog 12 [.agg aG.toArray, (.string x)] G H (L) (fun v f _ => v = .tuple #[.string r.1, .int .i64 r.2]) := by
 unfold z9e at h
 refine CR.og (n := 62) (fn := Tryd.f12) (by kernel_rfl) rfl rfl fun R kr => (.seq (.region (W.ln (Lo.box (r := z00) (x0 := a) (v := (.agg aG.toArray)) rfl rfl aZ O) ?_)))
 rintro b9 ca ⟨k, rfl, aH, bX⟩
 refine W.p1 (.string (⟨#[]⟩ : zAd)) (W.p1 (.int .i64 0) (.nil (.seq (.seq (.region (W.pv (padd (.pointer (some ⟨k, 0, none⟩)) 0) (z0a zaj ov (aH.atVar (j := 0) rfl)) ?_))))))
 obtain ⟨a0, bH, bI⟩ := At.sl (At.proj (aH.atVar (j := 0) rfl) z1y)
 refine W.l1 a0 ag22 (z0f rfl bH) (W.p2 (.string x) ?_)
 obtain ⟨C, a1, ar⟩ := z03 h
 refine W.ln (Lo.cQ Tryd.f49 (mc rfl (mc rfl mn)) aH (fun bJ aI => zap K a0 a.Nodes bI x aI _ a1)) ?_
 rintro bY bZ ⟨b0, c, Y, bK, rfl⟩
 refine W.p1 (.int .i64 C) (.nil (.seq (.region (W.p2 (.int .i64 C) (W.p3 (.bool (decide (C >= 0))) (.nil ?_))))))
 refine .cond (b := decide (C >= 0)) rfl rfl (fun Z => ?_) (fun Z => ?_)
 .have a2 := z01 Z ar
  refine .seq (.region (W.p2 (.int .i64 C) (W.p1 (.string (⟨#[110, 111, 100, 101]⟩ : zAd)) (W.p1 (.int .i64 C) (.nil (.ret ?_))))))
  have a3 := c.drop 0
  obtain rfl := zAa a2
  exact zhr kr (v1 := (.string (⟨#[110, 111, 100, 101]⟩ : zAd))) (v2 := (.int .i64 C)) (by rfl) rt rt a3 Y rfl
 have a4 := z11 Z ar
 refine .skip (.seq (.region (W.pv (padd (.pointer (some ⟨k, 0, none⟩)) 1) (z0a z86 ov (c.atVar (j := 0) rfl)) ?_)))
 obtain ⟨a5, a6, a7⟩ := At.sl (At.proj (c.atVar (j := 0) rfl) z1h)
 refine W.l1 a5 ag23 (z0f rfl a6) (W.pv (.int .i64 (a.Switches.length : Int)) (z1j ov (z17 a7) (z02 el23)) (W.pv (padd (.pointer (some ⟨k, 0, none⟩)) 2) (z0a zb1 ov (c.atVar (j := 0) rfl)) ?_))
 obtain ⟨a8, a9, ba⟩ := At.sl (At.proj (c.atVar (j := 0) rfl) z25)
 refine W.l1 a8 ag24 (z0f rfl a9) (W.pv (.int .i64 (a.Branches.length : Int)) (z1j ov (z17 ba) (z02 el24)) (W.pv (padd (.pointer (some ⟨k, 0, none⟩)) 3) (z0a zb2 ov (c.atVar (j := 0) rfl)) ?_))
 obtain ⟨bb, bc, bd⟩ := At.sl (At.proj (c.atVar (j := 0) rfl) z3a)
 refine W.l1 bb ag25 (z0f rfl bc) (W.pv (.int .i64 (a.Gens.length : Int)) (z1j ov (z17 bd) (z02 el25)) (W.pv (padd (.pointer (some ⟨k, 0, none⟩)) 4) (z0a zb3 ov (c.atVar (j := 0) rfl)) ?_))
 obtain ⟨be, bf, bg⟩ := At.sl (At.proj (c.atVar (j := 0) rfl) z35)
 refine W.l1 be ag26 (z0f rfl bf) (W.pv (.int .i64 (a.Loads.length : Int)) (z1j ov (z17 bg) (z02 el26)) (W.pv (padd (.pointer (some ⟨k, 0, none⟩)) 5) (z0a zb4 ov (c.atVar (j := 0) rfl)) ?_))
 obtain ⟨bh, bi, bj⟩ := At.sl (At.proj (c.atVar (j := 0) rfl) z2q)
 refine W.l1 bh ag27 (z0f rfl bi) (W.pv (.int .i64 (a.Stores.length : Int)) (z1j ov (z17 bj) (z02 el27)) (W.ln (Lo.buildSlice (r := (rI .i64)) (vs := [(.int .i64 (a.Switches.length : Int)), (.int .i64 (a.Branches.length : Int)), (.int .i64 (a.Gens.length : Int)), (.int .i64 (a.Loads.length : Int)), (.int .i64 (a.Stores.length : Int))]) (xs := [(a.Switches.length : Int), (a.Branches.length : Int), (a.Gens.length : Int), (a.Loads.length : Int), (a.Stores.length : Int)]) el82 ze3 sz3 (by kernel_rfl) rfl (qc rfl (qc rfl (qc rfl (qc rfl (qc rfl qn))))) rfl (.cons rfl (.cons rfl (.cons rfl (.cons rfl (.cons rfl .nil))))) c) ?_))
 rintro g b1 ⟨au, bL⟩
 refine W.p1 g (.nil (.seq (.region (W.p1 (.int .i64 0) (W.p1 (.int .i64 0) (.nil ?_))))))
 refine .seq (.seq (.region ?_))
 obtain ⟨av, bk, aw⟩ := (au.atVar (j := 1) rfl)
 refine W.loadA (cs := av) rfl rfl ag29 sz29 (z0f rfl bk) (RT.len _ aw) ?_
 obtain ⟨e, bl, bm⟩ := z03 a4
 refine W.ln (Lo.qF Tryd.f48 (ps := []) (pw := fun w => [_]) (mc rfl mn) au (fun bJ aI => zaq K av a aw aI _ bl)) ?_
 rintro b2 b3 ⟨y, ax, ay, az, bM, rfl⟩
 refine W.pv (.int .i64 (e.length : Int)) (z1j ov (ay.slLen (j := 0) rfl) (z02 el87)) (W.p2 (.int .i64 0) (.nil ?_))
 obtain ⟨aA, bn, aB⟩ := z2f bm
 refine AW.midT (fun d E => ∃  (f : GM), (.inr ()) = aA /\ Ow f E (eSl y 90 z2z e :: eSl g 3 (rI .i64) [(a.Switches.length : Int), (a.Branches.length : Int), (a.Gens.length : Int), (a.Loads.length : Int), (a.Stores.length : Int)] :: eVar k 29 z00 a :: L) /\ GM.le ax f) ?_ ?_
 rotate_left
 .rintro bC bN bD ⟨bO, rfl, aJ, aK⟩
  have aL := z6j (z67 aB)
  refine .seq (.region (W.p1 (.string (⟨#[]⟩ : zAd)) (W.p1 (.int .i64 0) (.nil (.ret ?_)))))
  have aM := ((aJ.drop 0).drop 0).drop 0
  obtain rfl := zAa aL
  exact zhr kr (v1 := (.string (⟨#[]⟩ : zAd))) (v2 := (.int .i64 0)) (by rfl) rt rt aM (zAe Y (zAe az aK)) rfl
 refine .block (AW.loop (α := Nat) (fun F d E => ∃ (z : Int) (A : Int) (bo : Int) (f : GM), z59 K x e a F z A bo = some aA /\ Ow f E (eSl y 90 z2z e :: eSl g 3 (rI .i64) [(a.Switches.length : Int), (a.Branches.length : Int), (a.Gens.length : Int), (a.Loads.length : Int), (a.Stores.length : Int)] :: eVar k 29 z00 a :: L) /\ GM.le ax f /\ d 8 = .int .i64 z /\ d 9 = .int .i64 A /\ d 38 = .int .i64 bo) (fun F => F) K ⟨0, 0, 0, _, bn, ay, (zAf _), rfl, rfl, rfl⟩ ?_)
 rintro aa
 rintro bP b4 p ⟨bp, bq, l, aC, V, X, ab, br, bs, ac⟩
 rcases aa with _ | aa
 .exact z0e V
 rw [z59] at V
 refine .seq (.region (W.q3 (.bool (decide (l < (e.length : Int)))) ac (ft (p 37 rfl) rfl) (.nil (.seq (.cond (b := decide (l < (e.length : Int))) rfl rfl (fun ad => ?_) (fun ad => ?_))))))
 rotate_left
 .have aN := z11 ad V
  refine .exit ?_
  obtain rfl := zAa aN
  exact ⟨_, rfl, X, ab⟩
 have bt := z01 ad V
 refine .skip (.seq (.block (.seq (.region ?_))))
 obtain ⟨m, bu, bv⟩ := z03 bt
 have ae := z1v bu
 refine W.pv (z5q y (l.toNat * 4)) (z6h el87 sz90 (ou (ft (p 36 rfl) rfl)) (ou ac) (X.slLen (j := 0) rfl) ae.1 ae.2.1) ?_
 obtain ⟨aD, bw, aE⟩ := (X.atSl (j := 0) rfl ae.2.2)
 refine W.loadA (cs := aD) rfl rfl ag90 sz90 (z0f rfl bw) (RT.len _ aE) (W.ln (Lo.alloc (r := z2z) (x0 := (Item.mk ByteArray.empty ([] : List zAd) false false)) ze90 (by kernel_rfl) zhs X) ?_)
 rintro b5 b6 ⟨af, rfl, bx, bQ⟩
 refine W.ln (Lo.storeVar (j := 0) (s := z2z) (y0 := m) (v := (.agg aD.toArray)) (o := 0) rfl ((Put.at (Put.self _) _ _)) rfl sz90 rfl (by omega) rfl aE bx) ?_
 rintro b7 b8 ⟨bz, bR⟩
 refine .nil (.seq ?_)
 obtain ⟨aF, bA, bB⟩ := z03 bv
 refine AW.midT (fun d E => ∃ (z : Int) (A : Int) (f : GM), (z, A) = aF /\ Ow f E (eVar af 90 z2z m :: eSl y 90 z2z e :: eSl g 3 (rI .i64) [(a.Switches.length : Int), (a.Branches.length : Int), (a.Gens.length : Int), (a.Loads.length : Int), (a.Stores.length : Int)] :: eVar k 29 z00 a :: L) /\ GM.le aC f /\ d 8 = .int .i64 z /\ d 9 = .int .i64 A) ?_ ?_
 .refine .block (AW.loop (α := Nat) (fun F d E => ∃ (z : Int) (A : Int) (f : GM), z4l K a F z A = some aF /\ Ow f E (eVar af 90 z2z m :: eSl y 90 z2z e :: eSl g 3 (rI .i64) [(a.Switches.length : Int), (a.Branches.length : Int), (a.Gens.length : Int), (a.Loads.length : Int), (a.Stores.length : Int)] :: eVar k 29 z00 a :: L) /\ GM.le aC f /\ d 8 = .int .i64 z /\ d 9 = .int .i64 A) (fun F => F) K ⟨bp, bq, _, bA, bz, (zAf _), br, bs⟩ ?_)
  rintro ag
  rintro bE bS aq ⟨B, ah, bT, I, q, ai, J, aj⟩
  rcases ag with _ | ag
  .exact z0e I
  rw [z4l] at I
  refine .seq (.seq (.region (W.q2 _ aj (W.q2 g (ft (aq 7 rfl) (ft (p 7 rfl) rfl)) (W.q2 _ J ?_)))))
  obtain ⟨M, aO, ak⟩ := z03 I
  have N := z1v aO
  refine W.pv (z5q g (B.toNat * 1)) (z6h el82 sz3 ov ov (q.slLen (j := 2) rfl) N.1 N.2.1) (W.l1 (.int .i64 M) ag3 (z0f rfl (At.int (q.atSl (j := 2) rfl N.2.2))) (W.p3 (.bool (ah == M)) (.nil (.cond (b := (ah == M)) rfl rfl (fun P => ?_) (fun P => ?_)))))
  rotate_left
  .have aP := z11 P ak
   refine .exit ?_
   obtain rfl := zAa aP
   exact ⟨B, ah, _, rfl, q, ai, J, aj⟩
  have aQ := z01 P ak
  refine .skip (.block (.region (W.q2 _ J (W.p3 (.int .i64 (z0u .i64 (B + 1))) (W.p1 (.int .i64 (z0u .i64 (B + 1))) (W.p1 (.int .i64 0) ?_))))))
  refine .nil ?_
  exact ⟨ag, zAg _, ⟨z0u .i64 (B + 1), 0, _, aQ, q, ai, rfl, rfl⟩⟩
 rintro bF bU t ⟨al, i, bV, rfl, u, am, an, ao⟩
 have ap := z68 bB
 refine .seq (.seq (.region (W.pv (padd (.pointer (some ⟨af, 0, none⟩)) 0) (z0a zkr (ou (ft (t 11 rfl) rfl)) (u.atVar (j := 0) rfl)) (W.l1 (.string m.name) ag9 (z0f rfl (At.str (At.proj (u.atVar (j := 0) rfl) zbf))) (W.q2 (.string x) (ft (t 1 rfl) (ft (p 1 rfl) rfl)) (W.pv (.bool (sEq m.name x)) (z69 ov ov) ?_))))))
 refine .nil (.cond (b := sEq m.name x) rfl rfl (fun Q => ?_) (fun Q => ?_))
 rotate_left
 .have aR := z11 Q ap
  refine .skip (.region (W.q2 _ ao (W.p3 (.int .i64 (z0u .i64 (i + 1))) (W.p1 (.int .i64 (z0u .i64 (i + 1))) (.nil (.region ?_))))))
  refine W.q3 (.int .i64 (z0u .i64 (l + 1))) (ft (t 38 rfl) ac) rfl (W.p2 (.int .i64 (z0u .i64 (l + 1))) (.nil ?_))
  have aS := u.drop 0
  exact ⟨aa, zAg _, ⟨al, z0u .i64 (i + 1), z0u .i64 (l + 1), _, aR, aS, (zAe ab am), an, rfl, rfl⟩⟩
 have aT := z01 Q ap
 refine .seq (.region (W.ln (Lo.buildSlice (r := rS) (vs := [(.string (⟨#[115, 119, 105, 116, 99, 104]⟩ : zAd)), (.string (⟨#[98, 114, 97, 110, 99, 104]⟩ : zAd)), (.string (⟨#[103, 101, 110]⟩ : zAd)), (.string (⟨#[108, 111, 97, 100]⟩ : zAd)), (.string (⟨#[115, 116, 111, 114, 101]⟩ : zAd))]) (xs := [(⟨#[115, 119, 105, 116, 99, 104]⟩ : zAd), (⟨#[98, 114, 97, 110, 99, 104]⟩ : zAd), (⟨#[103, 101, 110]⟩ : zAd), (⟨#[108, 111, 97, 100]⟩ : zAd), (⟨#[115, 116, 111, 114, 101]⟩ : zAd)]) el22 ze9 sz9 (by kernel_rfl) rfl (qc rfl (qc rfl (qc rfl (qc rfl (qc rfl qn))))) rfl (.cons rfl (.cons rfl (.cons rfl (.cons rfl (.cons rfl .nil))))) u) ?_))
 rintro aU bW ⟨S, bG⟩
 refine W.q2 _ an ?_
 obtain ⟨T, aV, aW⟩ := z03 aT
 have U := z1v aV
 refine W.pv (z5q aU (al.toNat * 1)) (z6h el22 sz9 ov ov (S.slLen (j := 0) rfl) U.1 U.2.1) (W.l1 (.string T) ag9 (z0f rfl (At.str (S.atSl (j := 0) rfl U.2.2))) (W.q2 _ ao (W.p1 (.string T) (W.p1 (.int .i64 i) (.nil (.ret ?_))))))
 have aX := ((((S.drop 0).drop 0).drop 0).drop 0).drop 0
 obtain rfl := zAa aW
 have aY := z68 (z4x aB)
 obtain rfl := zAa aY
 exact zhr kr (v1 := (.string T)) (v2 := (.int .i64 i)) (by rfl) rt rt aX (zAe Y (zAe az (zAe ab am))) rfl
def z1t (K : Nat) (b : zAd) (a : zAd) : Option Bool := (Option.bind ((if (decide ((b.size : Int) >= (a.size : Int))) = true then ((ssl b 0 (a.size : Int)).bind fun d => some (sEq d a)) else some false)) (tu1 fun c => some c))
theorem z5d (d : zAd) (c : zAd) (O : Ow G H (L)) (r : Bool) (h : z1t K d c = some r) :
    CR Tryd.prog 50 [(.string d), (.string c)] G H (L) (fun v f _ => v = .bool r) := by
 unfold z1t at h
 refine CR.og (n := 18) (fn := Tryd.f50) (by kernel_rfl) rfl rfl fun R kr => (.seq (.region (W.p1 (.bool false) (.nil (.seq ?_)))))
 obtain ⟨u, i, w⟩ := z03 h
 refine AW.midT (fun j x => ∃ (k : Bool) (f : GM), k = u /\ Ow f x (L) /\ GM.le G f /\ j 4 = .bool k) ?_ ?_
 rotate_left
 .rintro y E z ⟨l, F, rfl, m, o, p⟩
  have q := z0k w
  refine .ret ?_
  obtain rfl := zAa q
  exact z41 kr (v1 := (.bool l)) (by rfl) (zb0 (by rfl) (by exact p)) m o rfl
 refine .region (W.p2 (.string d) (W.pv (.int .i64 (d.size : Int)) (z9r ov un9) (W.p2 (.string c) (W.pv (.int .i64 (c.size : Int)) (z9r ov un9) (W.p3 (.bool (decide ((d.size : Int) >= (c.size : Int)))) (W.p2 (.bool (decide ((d.size : Int) >= (c.size : Int)))) ?_))))))
 refine W.splitAt (t := 10) (b := decide ((d.size : Int) >= (c.size : Int))) rfl (fun g a => ?_) (fun g a => ?_)
 rotate_left
 .have s := z11 g i
  refine W.q6 rfl a (W.q6 rfl a (W.q6 rfl a (W.q6 rfl a (W.q6 rfl a (W.q6 rfl a (W.q5 (.bool false) a rfl ?_))))))
  refine W.p1 (.bool false) (.nil ?_)
  obtain rfl := zAa s
  exact ⟨false, _, rfl, O, (zAf _), rfl⟩
 have A := z01 g i
 refine W.q2 (hg := gk rfl rfl a rfl) (.string d) rfl (W.q2 (hg := gk rfl rfl a rfl) (.string c) rfl (W.pure (v := (.int .i64 (c.size : Int))) (gl rfl a) rfl (z9r ov un9) ?_))
 obtain ⟨e, B, C⟩ := z03 A
 refine W.pure (v := (.string e)) (gl rfl a) rfl (zkp un9 ov ov B) (W.q2 (hg := gk rfl rfl a rfl) (.string c) rfl (W.pure (v := (.bool (sEq e c))) (gl rfl a) rfl (z69 ov ov) (W.q4 (.bool (sEq e c)) a rfl (W.p1 (.bool (sEq e c)) (.nil ?_)))))
 obtain rfl := zAa C
 exact ⟨sEq e c, _, rfl, O, (zAf _), rfl⟩
def z3d (K : Nat) (a : zAd) (b : zAd) : Option Bool := ((z1t K a b).bind fun c => some c)
theorem z7q (a : zAd) (b : zAd) (O : Ow G H (L)) (r : Bool) (h : z3d K a b = some r) :
    CR Tryd.prog 15 [(.string a), (.string b)] G H (L) (fun v m _ => v = .bool r) := by
 unfold z3d at h
 refine CR.og (n := 8) (fn := Tryd.f15) (by kernel_rfl) rfl rfl fun R kr => (.seq (.region (W.p1 (.bool false) (.nil (.seq (.region ?_))))))
 refine W.p2 (.string a) (W.p2 (.string b) ?_)
 obtain ⟨c, d, e⟩ := z03 h
 refine W.ln (Lo.cQ Tryd.f50 (mc rfl (mc rfl mn)) O (fun o f => z5d K a b f _ d)) ?_
 rintro j k ⟨p, g, i, l, rfl⟩
 refine W.p1 (.bool c) (.nil (.ret ?_))
 obtain rfl := zAa e
 exact z41 kr (v1 := (.bool c)) (by rfl) rt g i rfl
def z0g (K : Nat) (b : zAd) (a : zAd) : Option Bool := (Option.bind (((z3d K b (⟨#[110, 111, 100, 101, 32]⟩ : zAd)).bind fun c => (if (!c) = true then (if ((⟨#[32]⟩ : zAd)).size + (a).size <= 4611686018427387904 then (if (((⟨#[32]⟩ : zAd) ++ a)).size + ((⟨#[32]⟩ : zAd)).size <= 4611686018427387904 then ((z4m K b (((⟨#[32]⟩ : zAd) ++ a) ++ (⟨#[32]⟩ : zAd))).bind fun d => (if d = true then ((z4f K b).bind fun e => ((idx e 1).bind fun f => some (sEq f a))) else some false)) else none) else none) else some false))) (tu1 fun g => some g))
theorem z7d (k : zAd) (v1 : Value) (f : zAd) (s : At G G v1 rS f) (O : Ow G H (L)) (r : Bool) (h : z0g K k f = some r) :
    CR Tryd.prog 14 [(.string k), v1] G H (L) (fun v aa _ => v = .bool r) := by
 unfold z0g at h
 refine CR.og (n := 22) (fn := Tryd.f14) (by kernel_rfl) rfl rfl fun R kr => (.seq (.region (W.p1 (.bool false) (.nil (.seq ?_)))))
 obtain ⟨aA, aB, aC⟩ := z03 h
 refine AW.midT (fun ab aD => ∃ (ac : Bool) (aa : GM), ac = aA /\ Ow aa aD (L) /\ GM.le G aa /\ ab 3 = .bool ac) ?_ ?_
 rotate_left
 .rintro aE aI aF ⟨ad, aJ, rfl, ae, af, ag⟩
  have ah := z0k aC
  refine .ret ?_
  obtain rfl := zAa ah
  exact z41 kr (v1 := (.bool ad)) (by rfl) (zb0 (by rfl) (by exact ag)) ae af rfl
 refine .draw2 (M := [0, 1, 3, 7, 15, 15, 47, 111, 255, 511, 1023, 2047, 4095, 8191, 16383, 2047, 65535, 131071, 262143]) mixed (by kernel_rfl) (by kernel_rfl) fun aM aK aG aN => ?_
 have aH := O.ext aG
 refine D2.p2 (.string k) ?_
 obtain ⟨p, ai, N⟩ := z03 aB
 refine D2.lo rfl rfl (Lo.cQ Tryd.f15 (mc rfl (mc rfl mn)) aH (fun aj u => z7q K k (⟨#[110, 111, 100, 101, 32]⟩ : zAd) u _ ai)) ?_ z0d ?_ ?_
 .rintro P Q ⟨S, l, e, x, rfl⟩; exact z0d
 .rintro P Q ⟨S, l, e, x, rfl⟩; exact z0d
 rintro P Q ⟨S, l, e, x, rfl⟩
 refine D2.pv (.bool (!p)) (z26 (a := p) ov) (D2.p2 (.bool (!p)) (D2.splitAt (t := 7) (b := (!p)) rfl (fun y d => ?_) (fun y d => ?_)))
 rotate_left
 .have ak := z11 y N
  refine D2.skip (gl rfl d) rfl (D2.skip (gl rfl d) rfl (D2.skip (gl rfl d) rfl (D2.skip (gl rfl d) rfl (D2.skip (gl rfl d) rfl (D2.pv (.bool false) (z95 (ou d) ov) (D2.p2 (.bool false) ?_))))))
  refine D2.skip (gl rfl rfl) rfl (D2.skip (gl rfl rfl) rfl (D2.skip (gl rfl rfl) rfl (D2.skip (gl rfl rfl) rfl (D2.skip (gl rfl rfl) rfl (D2.skip (gl rfl rfl) rfl (D2.pv (.bool false) (z95 ov ov) ?_))))))
  refine D2.p1 (.bool false) (.nil ?_)
  obtain rfl := zAa ak
  exact ⟨false, _, rfl, l, e, rfl⟩
 have al := z01 y N
 refine D2.q2 (hg := gk rfl rfl d rfl) (.string k) rfl (D2.load1' (v := (.string f)) (r := []) (gl rfl d) rfl ag9 (z0f rfl (At.str (At.le (At.le s e e) (zAf _) l.fro))) (z6v (by decide) z0d) ?_)
 obtain ⟨am, an⟩ := z38 al
 refine D2.pure (v := (.string ((⟨#[32]⟩ : zAd) ++ f))) (gl rfl d) rfl (z7l am ov ov) ?_
 obtain ⟨ao, ap⟩ := z38 an
 refine D2.pure (v := (.string (((⟨#[32]⟩ : zAd) ++ f) ++ (⟨#[32]⟩ : zAd)))) (gl rfl d) rfl (z7l ao ov ov) ?_
 obtain ⟨z, aq, T⟩ := z03 ap
 refine D2.lo (gl rfl d) rfl (Lo.cQ Tryd.f16 (mc rfl (mc rfl mn)) l (fun aj u => z87 K k (((⟨#[32]⟩ : zAd) ++ f) ++ (⟨#[32]⟩ : zAd)) u _ aq)) ?_ (faK z0d) ?_ ?_
 .rintro U V ⟨A, q, g, B, rfl⟩; exact (faI z0d)
 .rintro U V ⟨A, q, g, B, rfl⟩; exact z0d
 rintro U V ⟨A, q, g, B, rfl⟩
 refine D2.pv (.bool z) (z8e (ou d) ov) (D2.p2 (.bool z) (D2.splitAt (t := 14) (b := z) rfl (fun C c => ?_) (fun C c => ?_)))
 rotate_left
 .have ar := z11 C T
  refine D2.skip (gl rfl c) rfl (D2.skip (gl rfl c) rfl (D2.skip (gl rfl c) rfl (D2.skip (gl rfl c) rfl (D2.skip (gl rfl c) rfl (D2.skip (gl rfl c) rfl (D2.pv (.bool false) (z95 (ou c) ov) ?_))))))
  refine D2.p1 (.bool false) (.nil ?_)
  obtain rfl := zAa ar
  exact ⟨false, _, rfl, q, (zAe e g), rfl⟩
 have au := z01 C T
 refine D2.q2 (hg := gk rfl rfl c rfl) (.string k) rfl ?_
 obtain ⟨aL, av, aw⟩ := z03 au
 refine D2.lo (gl rfl c) rfl (Lo.qF Tryd.f17 (ps := []) (pw := fun w => [_]) (mc rfl mn) q (fun aj u => z98 K k u _ av)) ?_ (faK (faK z0d)) ?_ ?_
 .rintro X Y ⟨E, Z, i, F, o, rfl⟩; exact (faI z0d)
 .rintro X Y ⟨E, Z, i, F, o, rfl⟩; exact z0d
 rintro X Y ⟨E, Z, i, F, o, rfl⟩
 have I := zAe e (zAe g F)
 obtain ⟨m, ax, ay⟩ := z03 aw
 have J := z1v ax
 refine D2.pure (v := (z5q E (Int.toNat 1 * 1))) (gl rfl c) rfl (z6h el22 sz9 ov ov (i.slLen (j := 0) rfl) J.1 J.2.1) (D2.load1' (v := (.string m)) (r := []) (gl rfl c) rfl ag9 (z0f rfl (At.str (i.atSl (j := 0) rfl J.2.2))) (z6v (by decide) (z6v (by decide) (z6v (by decide) z0d))) (D2.load1' (v := (.string f)) (r := []) (gl rfl c) rfl ag9 (z0f rfl (At.str (At.le (At.le s I I) (zAf _) i.fro))) (z85 (o _ (zlj (M := A) (At.le s (zAe e g) (zAe e g)) rfl)) (z6v (by decide) (z6v (by decide) z0d))) (D2.pure (v := (.bool (sEq m f))) (gl rfl c) rfl (z69 ov ov) (D2.pv (.bool (sEq m f)) (z8e (ou c) ov) (D2.p1 (.bool (sEq m f)) (.nil ?_))))))
 have az := i.drop 0
 obtain rfl := zAa ay
 exact ⟨sEq m f, _, rfl, az, I, rfl⟩
def z0c (K : Nat) (b : List zAd) (c : zAd -> Option Bool) : Nat -> Int -> Option (Int ⊕ Unit)
  | 0, _ => none
  | k + 1, a => (if (decide (a < (b.length : Int))) = true then ((idx b a).bind fun d => ((c d).bind fun e => (if e = true then some (.inl a) else z0c K b c k (z0u .i64 (a + 1))))) else some (.inr ()))
def z19 (K : Nat) (b : List zAd) (c : zAd -> Option Bool) : Option Int := (z66 (z0c K b c K 0) (tu1 fun a => some a) (tu0 (some (-1))))
theorem z5e (g : Value) (e : List zAd) (i : (rSl rS).rep G [g] e) (v1 : Value) (y : zAd -> Option Bool) (C : FnOk Tryd.prog G v1 (fun _ vs (x : (zAd)) => vs = [.string x]) (fun _ v (rr : (Bool)) => v = .bool rr) y) (O : Ow G H (L)) (r : Int) (h : z19 K e y = some r) :
    CR Tryd.prog 13 [g, v1] G H (L) (fun v f _ => v = .int .i64 r) := by
 unfold z19 at h
 refine CR.og (n := 19) (fn := Tryd.f13) (by kernel_rfl) rfl rfl fun R kr => (.seq (.region (W.p1 (.int .i64 0) (.nil (.seq (.seq ?_))))))
 refine .region (W.p2 g (W.pv (.int .i64 (e.length : Int)) (z1j ov (z17 i) (z02 el22)) (W.p2 (.int .i64 0) (.nil ?_))))
 obtain ⟨E, aa, F⟩ := z2f h
 refine AW.midT (fun q z => ∃  (f : GM), (.inr ()) = E /\ Ow f z (L) /\ GM.le G f) ?_ ?_
 rotate_left
 .rintro ab ae ac ⟨af, rfl, I, J⟩
  have M := z6j (z67 F)
  refine .seq (.region (W.p1 (.int .i64 (-1)) (.nil (.ret ?_))))
  obtain rfl := zAa M
  exact z41 kr (v1 := (.int .i64 (-1))) (by rfl) rt I J rfl
 refine .block (AW.loop (α := Nat) (fun A q z => ∃ (N : Int) (f : GM), z0c K e y A N = some E /\ Ow f z (L) /\ GM.le G f /\ q 8 = .int .i64 N) (fun A => A) K ⟨0, _, aa, O, (zAf _), rfl⟩ ?_)
 rintro B
 rintro ag ak j ⟨a, al, d, k, c, l⟩
 rcases B with _ | B
 .exact z0e d
 rw [z0c] at d
 refine .seq (.region (W.q3 (.bool (decide (a < (e.length : Int)))) l (ft (j 7 rfl) rfl) (.nil (.seq (.cond (b := decide (a < (e.length : Int))) rfl rfl (fun m => ?_) (fun m => ?_))))))
 rotate_left
 .have P := z11 m d
  refine .exit ?_
  obtain rfl := zAa P
  exact ⟨_, rfl, k, c⟩
 have Q := z01 m d
 refine .skip (.seq (.block (.seq (.region (W.q2 _ l (W.p1 (.int .i64 a) ?_))))))
 refine .nil (.seq (.region (W.q2 v1 (ft (j 1 rfl) rfl) (W.q2 g (ft (j 0 rfl) rfl) (W.p2 (.int .i64 a) ?_)))))
 obtain ⟨s, S, T⟩ := z03 Q
 have o := z1v S
 refine W.pv (z5q g (a.toNat * 1)) (z6h el22 sz9 ov ov (z17 (RT.mono _ c i)) o.1 o.2.1) (W.l1 (.string s) ag9 (z0f rfl (At.str (At.le (At.le (z47 i o.2.2) c c) (zAf _) k.fro))) ?_)
 obtain ⟨U, V, t⟩ := z03 T
 refine W.ln (Lo.callF (x0 := s) rfl rfl (FnOk.le C c) (mc rfl mn) rfl V k) ?_
 rintro ah ai ⟨aj, u, w, ad, rfl⟩
 refine .nil (.cond (b := U) rfl rfl (fun p => ?_) (fun p => ?_))
 rotate_left
 .have X := z11 p t
  refine .skip (.region (W.r3 (.int .i64 (z0u .i64 (a + 1))) l (W.p2 (.int .i64 (z0u .i64 (a + 1))) (.nil ?_))))
  exact ⟨B, zAg _, ⟨z0u .i64 (a + 1), _, X, u, (zAe c w), rfl⟩⟩
 have Y := z01 p t
 refine .seq (.region (W.p2 (.int .i64 a) (W.p1 (.int .i64 a) (.nil (.ret ?_)))))
 obtain rfl := zAa Y
 have Z := z0k (z4x F)
 obtain rfl := zAa Z
 exact z41 kr (v1 := (.int .i64 a)) (by rfl) rt u (zAe c w) rfl
def z1l (K : Nat) (a : List zAd) (b : Int) (c : Int) : Option (List zAd) := if 0 <= b /\ b < c /\ c <= (a.length : Int) then some (a.take b.toNat ++ a.drop c.toNat) else none
theorem z5s (m : Value) (a : List zAd) (c : Int) (d : Int) (O : Ow G H (eSl m 9 rS a :: L)) (r : List zAd) (h : z1l K a c d = some r) :
    CRF Tryd.prog 19 [m, .int .i64 c, .int .i64 d] G H (fun k => (eSl k 9 rS r :: L)) (fun k v x => k = v) := by
 unfold z1l at h
 obtain ⟨⟨y, z, o⟩, h⟩ := z38 h
 obtain rfl := zAa h
 obtain ⟨i, rfl⟩ : ∃ i : Nat, c = i := ⟨c.toNat, by omega⟩
 obtain ⟨j, rfl⟩ : ∃ j : Nat, d = j := ⟨d.toNat, by omega⟩
 rw [Int.toNat_natCast, Int.toNat_natCast]
 obtain ⟨b, tg, cap, rfl, hc, ht⟩ := O.slForm (q := 0) rfl (fun e => by rw [e] at o; simp at o; omega)
 have hl : zeo (.slice (some ⟨b, 0, tg⟩) a.length cap) a.length := O.slLen (j := 0) rfl
 refine CRF.og (n := 33) (fn := Tryd.f19) (by kernel_rfl) rfl rfl fun R kr => (.seq (.region (W.pv (.slice none 0 0) (z2k ov) (.nil ?_))))
 refine .seq (.region (W.pv (.slice (some ⟨b, 0, tg⟩) a.length cap) (z12 ov) (W.pv (.int .i64 (i : Int)) (z12 ov) (W.pv (.int .i64 (j : Int)) (z12 ov) (W.pv (.slice (some ⟨b, 0, tg⟩) a.length cap) (z12 ov) (W.pv (.int .i64 (a.length : Nat)) (z1j ov hl (z02 el22)) ?_))))))
 refine W.pv (.slice (some ⟨b, 0 + i * rS.sz, some 0⟩) (j - i) (a.length - i)) (z9i el22 sz9 ov ov ov ov (by omega) (by omega) hc hc ht) (.nil ?_)
 refine .seq (.seq (.region (W.pv (.int .i64 (i : Int)) (z12 ov) (W.pv (.int .i64 (j : Int)) (z12 ov) ?_))))
 refine W.pv (.bool false) ((zgy ov ov rfl).trans (congrArg (fun q => some (Value.bool q)) (beq_eq_false_iff_ne.2 (by omega)))) (.nil (.condF rfl rfl (.skip ?_)))
 refine .seq (.region (W.pv (.slice (some ⟨b, 0, tg⟩) a.length cap) (z12 ov) (W.pv (.int .i64 (a.length : Nat)) (z1j ov hl (z02 el22)) (W.pv (.int .i64 (a.length : Nat)) (z2k ov) (.nil ?_)))))
 refine .seq (.draw2 (M := [0, 0, 3, 0, 0, 24, 63, 127]) mixed (by kernel_rfl) (by kernel_rfl) fun A B p w => ?_)
 have s := O.ext p
 refine D2.pv (.slice (some ⟨b, 0, tg⟩) a.length cap) (z12 ov) (D2.pv (.int .i64 (i : Int)) (z12 ov) ?_)
 refine D2.pv (.slice (some ⟨b, 0, tg⟩) i cap) (z7z el22 sz9 ov ov (by omega) hc ht) (D2.pv (.slice (some ⟨b, 0, tg⟩) a.length cap) (z12 ov) (D2.pv (.int .i64 (j : Int)) (z12 ov) ?_))
 refine D2.pv (.slice (some ⟨b, 0 + j * rS.sz, tg⟩) (a.length - j) (cap - j)) (z7y el22 sz9 ov ov (by omega) hc ht) (D2.lo rfl rfl (Lo.cutSl (q := 0) (i := i) (j := j) (r := rS) rfl rfl el22 ni22 ze9 sz9 (by kernel_rfl) rfl rfl (by omega) (by omega) s) (fun _ _ _ => z0d) z0d (fun _ _ _ => z0d) ?_)
 rintro C t ⟨rfl, f⟩
 refine D2.pv (.slice (some ⟨b, 0, tg⟩) (i + (a.length - j)) cap) (z2k ov) (.nil ?_)
 have g : (a.take i ++ a.drop j).length = i + (a.length - j) := by simp; omega
 replace f : Ow G t (eSl (.slice (some ⟨b, 0, tg⟩) (a.take i ++ a.drop j).length cap) 9 rS (a.take i ++ a.drop j) :: L) := by rw [g]; exact f
 rw [<- g]
 refine .seq (.region (W.pv (.slice (some ⟨b, 0, tg⟩) (a.take i ++ a.drop j).length cap) (z12 ov) (W.pv (.slice (some ⟨b, 0, tg⟩) (a.take i ++ a.drop j).length cap) (z12 ov) (W.pv (.int .i64 ((a.take i ++ a.drop j).length : Nat)) (z1j ov (f.slLen (j := 0) rfl) (z02 el22)) (W.pv (.int .i64 (a.length : Nat)) (z12 ov) ?_)))))
 refine W.pv (.slice (some ⟨b, 0 + (a.take i ++ a.drop j).length * rS.sz, tg⟩) (a.length - (a.take i ++ a.drop j).length) (cap - (a.take i ++ a.drop j).length)) (z81 el22 sz9 ov ov ov (by omega) hc (by omega) ht) (W.ln (Lo.clearTail (q := 0) (l := (a.take i ++ a.drop j).length) (r := rS) rfl rfl el22 ze9 sz9 (by kernel_rfl) rfl rfl (Nat.le_refl _) (by omega) f) ?_)
 rintro E F u
 refine .nil (.seq (.region (W.pv (.slice (some ⟨b, 0, tg⟩) (a.take i ++ a.drop j).length cap) (z12 ov) (W.pv (.slice (some ⟨b, 0, tg⟩) (a.take i ++ a.drop j).length cap) (z2k ov) (.nil (.ret ?_))))))
 exact z4a kr (.slice (some ⟨b, 0, tg⟩) (a.take i ++ a.drop j).length cap) (v1 := (.slice (some ⟨b, 0, tg⟩) (a.take i ++ a.drop j).length cap)) (by rfl) rt u (zAf _) rfl
def z0o (K : Nat) (b : List zAd) (c : List zAd) : Nat -> Int -> Option (Bool ⊕ Unit)
  | 0, _ => none
  | k + 1, a => (if (decide (a < (b.length : Int))) = true then ((idx b a).bind fun d => ((idx c a).bind fun e => (if (!(sEq d e)) = true then some (.inl false) else z0o K b c k (z0u .i64 (a + 1))))) else some (.inr ()))
def z1a (K : Nat) (a : List zAd) (b : List zAd) : Option Bool := (if ((a.length : Int) != (b.length : Int)) = true then some false else (z66 (z0o K a b K 0) (tu1 fun c => some c) (tu0 (some true))))
theorem z3t (j : Value) (d : List zAd) (f : (rSl rS).rep G [j] d) (v1 : Value) (k : List zAd) (m : (rSl rS).rep G [v1] k) (O : Ow G H (L)) (r : Bool) (h : z1a K d k = some r) :
    CR Tryd.prog 18 [j, v1] G H (L) (fun v l _ => v = .bool r) := by
 unfold z1a at h
 refine CR.og (n := 26) (fn := Tryd.f18) (by kernel_rfl) rfl rfl fun R kr => (.seq (.region (W.p1 (.bool false) (.nil (.seq (.seq ?_))))))
 refine .region (W.p2 j (W.pv (.int .i64 (d.length : Int)) (z1j ov (z17 f) (z02 el22)) (W.p2 v1 (W.pv (.int .i64 (k.length : Int)) (z1j ov (z17 m) (z02 el22)) (W.p3 (.bool ((d.length : Int) != (k.length : Int))) (.nil ?_))))))
 refine .cond (b := ((d.length : Int) != (k.length : Int))) rfl rfl (fun A => ?_) (fun A => ?_)
 .have ac := z01 A h
  refine .seq (.region (W.p1 (.bool false) (.nil (.ret ?_))))
  obtain rfl := zAa ac
  exact z41 kr (v1 := (.bool false)) (by rfl) rt O (zAf _) rfl
 have ad := z11 A h
 refine .skip (.seq (.seq (.region (W.p2 j (W.pv (.int .i64 (d.length : Int)) (z1j ov (z17 f) (z02 el22)) (W.p2 (.int .i64 0) ?_))))))
 refine .nil ?_
 obtain ⟨F, ae, I⟩ := z2f ad
 refine AW.midT (fun x B => ∃  (l : GM), (.inr ()) = F /\ Ow l B (L) /\ GM.le G l) ?_ ?_
 rotate_left
 .rintro af ah ag ⟨ai, rfl, J, N⟩
  have P := z6j (z67 I)
  refine .seq (.region (W.p1 (.bool true) (.nil (.ret ?_))))
  obtain rfl := zAa P
  exact z41 kr (v1 := (.bool true)) (by rfl) rt J N rfl
 refine .block (AW.loop (α := Nat) (fun C x B => ∃ (Q : Int) (l : GM), z0o K d k C Q = some F /\ Ow l B (L) /\ GM.le G l /\ x 13 = .int .i64 Q) (fun C => C) K ⟨0, _, ae, O, (zAf _), rfl⟩ ?_)
 rintro E
 rintro aj ak e ⟨c, al, g, y, a, o⟩
 rcases E with _ | E
 .exact z0e g
 rw [z0o] at g
 refine .seq (.region (W.q3 (.bool (decide (c < (d.length : Int)))) o (ft (e 12 rfl) rfl) (.nil (.seq (.cond (b := decide (c < (d.length : Int))) rfl rfl (fun p => ?_) (fun p => ?_))))))
 rotate_left
 .have S := z11 p g
  refine .exit ?_
  obtain rfl := zAa S
  exact ⟨_, rfl, y, a⟩
 have T := z01 p g
 refine .skip (.seq (.block (.seq (.region (W.q2 _ o (W.p1 (.int .i64 c) ?_))))))
 refine .nil (.seq (.draw2 (M := [0, 0, 3, 7, 0, 0, 48, 112, 255]) mixed (by kernel_rfl) (by kernel_rfl) fun am an U ao => ?_))
 have i := y.ext U
 refine D2.q2 j (ft (e 0 rfl) rfl) (D2.p2 (.int .i64 c) ?_)
 obtain ⟨q, V, X⟩ := z03 T
 have s := z1v V
 refine D2.pv (z5q j (c.toNat * 1)) (z6h el22 sz9 ov ov (z17 (RT.mono _ a f)) s.1 s.2.1) (D2.l1 (.string q) ag9 (z0f rfl (At.str (At.le (At.le (z47 f s.2.2) a a) (zAf _) i.fro))) z0d (D2.q2 v1 (ft (e 1 rfl) rfl) (D2.p2 (.int .i64 c) ?_)))
 obtain ⟨t, Y, z⟩ := z03 X
 have u := z1v Y
 refine D2.pv (z5q v1 (c.toNat * 1)) (z6h el22 sz9 ov ov (z17 (RT.mono _ a m)) u.1 u.2.1) (D2.l1 (.string t) ag9 (z0f rfl (At.str (At.le (At.le (z47 m u.2.2) a a) (zAf _) i.fro))) z0d (D2.pv (.bool (!(sEq q t))) (zg0 ov ov) (.nil (.cond (b := (!(sEq q t))) rfl rfl (fun w => ?_) (fun w => ?_)))))
 rotate_left
 .have Z := z11 w z
  refine .skip (.region (W.r3 (.int .i64 (z0u .i64 (c + 1))) o (W.p2 (.int .i64 (z0u .i64 (c + 1))) (.nil ?_))))
  exact ⟨E, zAg _, ⟨z0u .i64 (c + 1), _, Z, i, a, rfl⟩⟩
 have aa := z01 w z
 refine .seq (.region (W.p1 (.bool false) (.nil (.ret ?_))))
 obtain rfl := zAa aa
 have ab := z0k (z4x I)
 obtain rfl := zAa ab
 exact z41 kr (v1 := (.bool false)) (by rfl) rt i a rfl
end Go.Am.Tryd
/- Typed functions with the same answers as the program's, and the walks that show it. -/
namespace Go.Am.Tryd
open Go Go.Am Go.Proofs
def z2g (K : Nat) (g : Network) (j : zAd) (N : Bool) : Option Bool := ((z4n K ).bind fun O => (if (!O) = true then some false else ((z2o K g j).bind fun c => ((z3e K g j).bind fun d => ((z2n K g j).bind fun e => ((z3v K g j N).bind fun a => ((z6d K g).bind fun f => (if (f != 0) = true then (Option.bind ((if (c.2.2 == f) = true then (if (d.2 == f) = true then (if (e.2 == f) = true then (if (a.2 == f) = true then (if (sEq c.1 (⟨#[]⟩ : zAd)) = true then (if (c.2.1 == 0) = true then (if (d.1 == 0) = true then ((z0t K e.1).bind fun C => (if C = true then ((z0t K a.1).bind fun E => some E) else some false)) else some false) else some false) else some false) else some false) else some false) else some false) else some false)) (tu1 fun F => some F)) else ((z9e K g j).bind fun b => (if (sEq b.1 (⟨#[]⟩ : zAd)) = true then (Option.bind ((if (c.2.2 == 6) = true then (if (d.2 == 6) = true then (if (e.2 == 6) = true then (if (a.2 == 6) = true then (if (sEq c.1 (⟨#[]⟩ : zAd)) = true then (if (c.2.1 == 0) = true then (if (d.1 == 0) = true then ((z0t K e.1).bind fun G => (if G = true then ((z0t K a.1).bind fun H => some H) else some false)) else some false) else some false) else some false) else some false) else some false) else some false) else some false)) (tu1 fun I => some I)) else (Option.bind ((if (c.2.2 != 0) = true then some true else (if (!(sEq c.1 b.1)) = true then some true else some (c.2.1 != b.2)))) (tu1 fun J => (if J = true then some false else (if (sEq b.1 (⟨#[110, 111, 100, 101]⟩ : zAd)) = true then (Option.bind ((if (d.2 == 0) = true then (if (d.1 == b.2) = true then (if (e.2 == 1) = true then (if (a.2 == 1) = true then ((z0t K e.1).bind fun L => (if L = true then ((z0t K a.1).bind fun M => some M) else some false)) else some false) else some false) else some false) else some false)) (tu1 fun k => some k)) else (Option.bind ((if (d.2 != 6) = true then some true else some (d.1 != 0))) (tu1 fun l => (if l = true then some false else ((z4j K g).bind fun h => ((z19 K h (fun x => z0g K x j)).bind fun i => (Option.bind ((if (decide (i < 0)) = true then some true else (if (e.2 != 0) = true then some true else ((z4j K e.1).bind fun m => ((z0z K h).bind fun n => ((z1l K n i (z0u .i64 (i + 1))).bind fun o => ((z1a K m o).bind fun p => some (!p)))))))) (tu1 fun q => (if q = true then some false else (lt (!(sEq b.1 (⟨#[115, 119, 105, 116, 99, 104]⟩ : zAd))) fun r => (if r = true then (Option.bind ((if (a.2 == 1) = true then ((z0t K a.1).bind fun s => some s) else some false)) (tu1 fun t => some t)) else (Option.bind ((if (a.2 != 0) = true then some true else (lt ((a.1.Switches.length : Int) != (g.Switches.length : Int)) fun u => (if u = true then some true else ((idx a.1.Switches b.2).bind fun v => some (!(v.Open == N))))))) (tu1 fun w => (if w = true then some false else ((idx g.Switches b.2).bind fun y => ((idx a.1.Switches b.2).bind fun z => ((z4j K ({ a.1 with Switches := (List.set a.1.Switches (b.2.toNat) ({ z with Open := y.Open })) })).bind fun A => ((z1a K A h).bind fun B => some B)))))))))))))))))))))))))))))))
theorem z7r (K : Nat) {G : GM} {H : AH} {L : List Pc} (hS : List Value) (al : Network) (oY : z00.rep G hS al) (aj : zAd) (bq : Bool) (O : Ow G H (L)) (r : Bool) (h : z2g K al aj bq = some r) :
    CR Tryd.prog 3 [.agg hS.toArray, (.string aj), (.bool bq)] G H (L) (fun v F _ => v = .bool r) := by
 unfold z2g at h
 refine CR.og (n := 251) (fn := Tryd.f3) (by kernel_rfl) rfl rfl fun R kr => (.seq (.region (W.ln (Lo.box (r := z00) (x0 := al) (v := (.agg hS.toArray)) rfl rfl oY O) ?_)))
 rintro xx xy ⟨a2, rfl, rF, xb⟩
 refine W.ln (Lo.box (r := rS) (x0 := aj) (v := (.string aj)) rfl rfl rfl rF) ?_
 rintro xz xc ⟨br, rfl, rG, xd⟩
 refine W.p1 (.bool false) (.nil (.seq (.seq (.region ?_))))
 obtain ⟨cU, oZ, hv⟩ := z03 h
 refine W.ln (Lo.cQ Tryd.f4 mn rG (fun ak A => z88 K  A _ oZ)) ?_
 rintro xe xf ⟨xg, ca, cb, rH, rfl⟩
 refine W.pv (.bool (!cU)) (z26 (a := cU) ov) (.nil (.cond (b := (!cU)) rfl rfl (fun cV => ?_) (fun cV => ?_)))
 .have o0 := z01 cV hv
  refine .seq (.region (W.p1 (.bool false) (.nil (.ret ?_))))
  have o1 := (ca.drop 0).drop 0
  obtain rfl := zAa o0
  exact z41 kr (v1 := (.bool false)) (by rfl) rt o1 cb rfl
 have o2 := z11 cV hv
 refine .skip (.seq (.region ?_))
 obtain ⟨hw, o3, hx⟩ := (ca.atVar (j := 1) rfl)
 refine W.loadA (cs := hw) rfl rfl ag29 sz29 (z0f rfl o3) (RT.len _ hx) (W.l1 (.string aj) ag9 (z0f rfl (At.str (ca.atVar (j := 0) rfl))) ?_)
 obtain ⟨g, o4, o5⟩ := z03 o2
 refine W.ln (Lo.cQ Tryd.f5 (mc rfl (mc rfl mn)) ca (fun ak A => z5r K hw al hx aj A _ o4)) ?_
 rintro xh xi ⟨xj, cW, cX, rJ, rfl⟩
 refine W.p2 (.tuple #[(.string g.1), (.int .i64 g.2.1), (.int .i64 g.2.2)]) (W.pv (.string g.1) (z39 ov rfl) (W.pv (.int .i64 g.2.1) (z39 ov rfl) (W.pv (.int .i64 g.2.2) (z39 ov rfl) (W.p1 (.string g.1) (W.p1 (.int .i64 g.2.1) (W.p1 (.int .i64 g.2.2) ?_))))))
 refine .nil (.seq (.region ?_))
 obtain ⟨hy, o6, hz⟩ := (cW.atVar (j := 1) rfl)
 refine W.loadA (cs := hy) rfl rfl ag29 sz29 (z0f rfl o6) (RT.len _ hz) (W.l1 (.string aj) ag9 (z0f rfl (At.str (cW.atVar (j := 0) rfl))) ?_)
 obtain ⟨k, o7, o8⟩ := z03 o5
 refine W.ln (Lo.cQ Tryd.f6 (mc rfl (mc rfl mn)) cW (fun ak A => z9l K hy al hz aj A _ o7)) ?_
 rintro xk xl ⟨xm, cY, cZ, rK, rfl⟩
 refine W.p2 (.tuple #[(.int .i64 k.1), (.int .i64 k.2)]) (W.pv (.int .i64 k.1) (z39 ov rfl) (W.pv (.int .i64 k.2) (z39 ov rfl) (W.p1 (.int .i64 k.1) (W.p1 (.int .i64 k.2) (.nil (.seq ?_))))))
 refine .region ?_
 obtain ⟨hC, o9, hD⟩ := (cY.atVar (j := 1) rfl)
 refine W.loadA (cs := hC) rfl rfl ag29 sz29 (z0f rfl o9) (RT.len _ hD) (W.l1 (.string aj) ag9 (z0f rfl (At.str (cY.atVar (j := 0) rfl))) ?_)
 obtain ⟨p, pa, pb⟩ := z03 o8
 refine W.ln (Lo.cQ Tryd.f7 (mc rfl (mc rfl mn)) cY (fun ak A => z8b K hC al hD aj A _ pa)) ?_
 rintro xn xo ⟨xp, pc, c0, rL, ⟨c1, rfl, pd⟩⟩
 refine W.p2 (.tuple #[(.agg c1.toArray), (.int .i64 p.2)]) (W.pv (.agg c1.toArray) (z39 ov rfl) (W.pv (.int .i64 p.2) (z39 ov rfl) (W.ln (Lo.alloc (r := z00) (x0 := (Network.mk ([] : List zAd) ([] : List Switch) ([] : List Branch) ([] : List Gen) ([] : List Load_) ([] : List Store))) ze29 (by kernel_rfl) z6n pc) ?_)))
 rintro xq xr ⟨aN, rfl, pe, rM⟩
 refine W.ln (Lo.storeVar (j := 0) (s := z00) (y0 := p.1) (v := (.agg c1.toArray)) (o := 0) rfl ((Put.at (Put.self _) _ _)) rfl sz29 rfl (by omega) rfl pd pe) ?_
 rintro xs xt ⟨c2, rN⟩
 refine W.p1 (.int .i64 p.2) (.nil (.seq (.region ?_)))
 obtain ⟨hE, pf, hH⟩ := (c2.atVar (j := 2) rfl)
 refine W.loadA (cs := hE) rfl rfl ag29 sz29 (z0f rfl pf) (RT.len _ hH) (W.l1 (.string aj) ag9 (z0f rfl (At.str (c2.atVar (j := 1) rfl))) (W.p2 (.bool bq) ?_))
 obtain ⟨c, pg, ph⟩ := z03 pb
 refine W.ln (Lo.qF Tryd.f8 (ps := []) (pw := fun w => [_, _, _, _, _, _]) (mc rfl (mc rfl (mc rfl mn))) c2 (fun ak A => z9z K hE al hH aj bq A _ pg)) ?_
 rintro xu xv ⟨d, xw, pi, c3, rO, ⟨c4, rfl, pj⟩⟩
 refine W.p2 (.tuple #[(.agg c4.toArray), (.int .i64 c.2)]) (W.pv (.agg c4.toArray) (z39 ov rfl) (W.pv (.int .i64 c.2) (z39 ov rfl) (W.ln (Lo.alloc (r := z00) (x0 := (Network.mk ([] : List zAd) ([] : List Switch) ([] : List Branch) ([] : List Gen) ([] : List Load_) ([] : List Store))) ze29 (by kernel_rfl) z6n pi) ?_)))
 rintro rQ rR ⟨aY, rfl, pk, rT⟩
 refine W.ln (Lo.storeW (j := 0) (r := z00) (s := z18) (y0 := (c.1, (oV d 0), (oV d 1), (oV d 2), (oV d 3), (oV d 4), (oV d 5))) (v := (.agg c4.toArray)) rfl rfl rfl sz29 rfl rfl pj pk) ?_
 rintro rU rW ⟨c5, pE⟩
 refine W.p1 (.int .i64 c.2) (.nil (.seq (.region (W.pv (.func (.func 9) #[] #[]) (z2k rfl) (.nil (.seq ?_))))))
 refine .seq (.region ?_)
 obtain ⟨c6, hT, c7⟩ := (c5.atVar (j := 9) rfl)
 refine W.loadA (cs := c6) rfl rfl ag29 sz29 (z0f rfl hT) (RT.len _ c7) ?_
 obtain ⟨y, hU, c8⟩ := z03 ph
 refine W.ln (Lo.cQ Tryd.f11 (mc rfl mn) c5 (fun ak A => zb5 K c6 al c7 A _ hU)) ?_
 rintro rX rY ⟨hV, I, bt, pF, rfl⟩
 refine W.p1 (.int .i64 y) (.nil (.seq (.region (W.p2 (.int .i64 y) (W.p3 (.bool (y != 0)) (.nil ?_))))))
 refine .cond (b := (y != 0)) rfl rfl (fun bu => ?_) (fun bu => ?_)
 .have hW := z01 bu c8
  refine .seq ?_
  obtain ⟨hX, c9, hY⟩ := z03 hW
  refine AW.midT (fun ad aH => ∃ (ae : Bool) (F : GM), ae = hX /\ Ow F aH (eVar aN 29 z00 p.1 :: eVar br 9 rS aj :: eVar a2 29 z00 al :: L) /\ GM.le hV F /\ ad 6 = .bool ae) ?_ ?_
  rotate_left
  .rintro pG rZ pH ⟨hZ, r0, rfl, h0, h1, h2⟩
   have h3 := zAe cb (zAe cX (zAe cZ (zAe c0 (zAe c3 (zAe bt h1)))))
   have h4 := z0k hY
   refine .ret ?_
   have h5 := ((h0.drop 0).drop 0).drop 0
   obtain rfl := zAa h4
   exact z41 kr (v1 := (.bool hZ)) (by rfl) (zb0 (by rfl) (by exact h2)) h5 h3 rfl
  refine .region (W.p2 (.int .i64 g.2.2) (W.p2 (.int .i64 y) (W.p3 (.bool (g.2.2 == y)) (W.p2 (.bool (g.2.2 == y)) (W.splitAt (t := 57) (b := (g.2.2 == y)) rfl (fun bv N => ?_) (fun bv N => ?_))))))
  rotate_left
  .have h6 := z11 bv c9
   refine W.q6 rfl N (W.q6 rfl N (W.q6 rfl N (W.q5 (.bool false) N rfl (W.p2 (.bool false) (W.q6 rfl rfl (W.q6 rfl rfl ?_))))))
   refine W.q6 rfl rfl (W.q5 (.bool false) rfl rfl (W.p2 (.bool false) (W.q6 rfl rfl (W.q6 rfl rfl (W.q6 rfl rfl (W.q5 (.bool false) rfl rfl ?_))))))
   refine W.p2 (.bool false) (W.q6 rfl rfl (W.q6 rfl rfl (W.q5 (.bool false) rfl rfl (W.p2 (.bool false) (W.q6 rfl rfl (W.q6 rfl rfl ?_))))))
   refine W.q5 (.bool false) rfl rfl (W.p2 (.bool false) (W.q6 rfl rfl (W.q6 rfl rfl (W.q5 (.bool false) rfl rfl (W.p2 (.bool false) (W.q6 rfl rfl ?_))))))
   refine W.q6 rfl rfl (W.q6 rfl rfl (W.q5 (.bool false) rfl rfl (W.p2 (.bool false) (W.q6 rfl rfl (W.q6 rfl rfl (W.q6 rfl rfl ?_))))))
   refine W.q5 (.bool false) rfl rfl (W.p1 (.bool false) (.nil ?_))
   obtain ⟨r1, h7, h8, r2⟩ := I.frzSl (j := 1) rfl
   obtain ⟨r3, h9, ia, r4⟩ := h7.frzSl (j := 1) rfl
   obtain ⟨r5, ib, ic, r6⟩ := h9.frzSl (j := 1) rfl
   obtain ⟨r7, id, ie, r8⟩ := ib.frzSl (j := 1) rfl
   obtain ⟨r9, ig, ih, sa⟩ := id.frzSl (j := 1) rfl
   obtain ⟨sb, ii, ij, sc⟩ := ig.frzSl (j := 1) rfl
   obtain ⟨sd, ik, il, se⟩ := ii.frzVar (j := 0) rfl
   have im := zAe h8 (zAe ia (zAe ic (zAe ie (zAe ih (zAe ij il)))))
   obtain rfl := zAa h6
   exact ⟨false, _, rfl, ik, im, rfl⟩
  have da := z01 bv c9
  refine W.q2 (hg := gk rfl rfl N rfl) (.int .i64 k.2) rfl (W.q2 (hg := gk rfl rfl N rfl) (.int .i64 y) rfl (W.q3 (hg := gk rfl rfl N rfl) (.bool (k.2 == y)) rfl rfl (W.q4 (.bool (k.2 == y)) N rfl (W.p2 (.bool (k.2 == y)) (W.splitAt (t := 62) (b := (k.2 == y)) rfl (fun bw P => ?_) (fun bw P => ?_))))))
  rotate_left
  .have io := z11 bw da
   refine W.q6 rfl P (W.q6 rfl P (W.q6 rfl P (W.q5 (.bool false) P rfl (W.p2 (.bool false) (W.q6 rfl rfl (W.q6 rfl rfl ?_))))))
   refine W.q6 rfl rfl (W.q5 (.bool false) rfl rfl (W.p2 (.bool false) (W.q6 rfl rfl (W.q6 rfl rfl (W.q5 (.bool false) rfl rfl (W.p2 (.bool false) ?_))))))
   refine W.q6 rfl rfl (W.q6 rfl rfl (W.q5 (.bool false) rfl rfl (W.p2 (.bool false) (W.q6 rfl rfl (W.q6 rfl rfl (W.q5 (.bool false) rfl rfl ?_))))))
   refine W.p2 (.bool false) (W.q6 rfl rfl (W.q6 rfl rfl (W.q6 rfl rfl (W.q5 (.bool false) rfl rfl (W.p2 (.bool false) (W.q6 rfl rfl ?_))))))
   refine W.q6 rfl rfl (W.q6 rfl rfl (W.q5 (.bool false) rfl rfl (W.p1 (.bool false) (.nil ?_))))
   obtain ⟨sf, ip, iq, sg⟩ := I.frzSl (j := 1) rfl
   obtain ⟨sh, ir, it, si⟩ := ip.frzSl (j := 1) rfl
   obtain ⟨sj, iu, iv, sk⟩ := ir.frzSl (j := 1) rfl
   obtain ⟨sm, iw, ix, sn⟩ := iu.frzSl (j := 1) rfl
   obtain ⟨so, iy, iz, sp⟩ := iw.frzSl (j := 1) rfl
   obtain ⟨sq, iA, iB, sr⟩ := iy.frzSl (j := 1) rfl
   obtain ⟨ss, iC, iD, st⟩ := iA.frzVar (j := 0) rfl
   have iE := zAe iq (zAe it (zAe iv (zAe ix (zAe iz (zAe iB iD)))))
   obtain rfl := zAa io
   exact ⟨false, _, rfl, iC, iE, rfl⟩
  have db := z01 bw da
  refine W.q2 (hg := gk rfl rfl P rfl) (.int .i64 p.2) rfl (W.q2 (hg := gk rfl rfl P rfl) (.int .i64 y) rfl (W.q3 (hg := gk rfl rfl P rfl) (.bool (p.2 == y)) rfl rfl (W.q4 (.bool (p.2 == y)) P rfl (W.p2 (.bool (p.2 == y)) (W.splitAt (t := 67) (b := (p.2 == y)) rfl (fun bx Q => ?_) (fun bx Q => ?_))))))
  rotate_left
  .have iF := z11 bx db
   refine W.q6 rfl Q (W.q6 rfl Q (W.q6 rfl Q (W.q5 (.bool false) Q rfl (W.p2 (.bool false) (W.q6 rfl rfl (W.q6 rfl rfl ?_))))))
   refine W.q5 (.bool false) rfl rfl (W.p2 (.bool false) (W.q6 rfl rfl (W.q6 rfl rfl (W.q5 (.bool false) rfl rfl (W.p2 (.bool false) (W.q6 rfl rfl ?_))))))
   refine W.q6 rfl rfl (W.q5 (.bool false) rfl rfl (W.p2 (.bool false) (W.q6 rfl rfl (W.q6 rfl rfl (W.q6 rfl rfl (W.q5 (.bool false) rfl rfl ?_))))))
   refine W.p2 (.bool false) (W.q6 rfl rfl (W.q6 rfl rfl (W.q6 rfl rfl (W.q5 (.bool false) rfl rfl (W.p1 (.bool false) (.nil ?_))))))
   obtain ⟨su, iG, iH, sv⟩ := I.frzSl (j := 1) rfl
   obtain ⟨sw, iI, iJ, sx⟩ := iG.frzSl (j := 1) rfl
   obtain ⟨sy, iK, iL, sz⟩ := iI.frzSl (j := 1) rfl
   obtain ⟨sA, iM, iN, sB⟩ := iK.frzSl (j := 1) rfl
   obtain ⟨sC, iO, iP, sD⟩ := iM.frzSl (j := 1) rfl
   obtain ⟨sE, iQ, iR, sG⟩ := iO.frzSl (j := 1) rfl
   obtain ⟨sH, iS, iT, sI⟩ := iQ.frzVar (j := 0) rfl
   have iU := zAe iH (zAe iJ (zAe iL (zAe iN (zAe iP (zAe iR iT)))))
   obtain rfl := zAa iF
   exact ⟨false, _, rfl, iS, iU, rfl⟩
  have dc := z01 bx db
  refine W.q2 (hg := gk rfl rfl Q rfl) (.int .i64 c.2) rfl (W.q2 (hg := gk rfl rfl Q rfl) (.int .i64 y) rfl (W.q3 (hg := gk rfl rfl Q rfl) (.bool (c.2 == y)) rfl rfl (W.q4 (.bool (c.2 == y)) Q rfl (W.p2 (.bool (c.2 == y)) (W.splitAt (t := 72) (b := (c.2 == y)) rfl (fun bz an => ?_) (fun bz an => ?_))))))
  rotate_left
  .have iV := z11 bz dc
   refine W.q6 rfl an (W.q6 rfl an (W.q5 (.bool false) an rfl (W.p2 (.bool false) (W.q6 rfl rfl (W.q6 rfl rfl (W.q5 (.bool false) rfl rfl ?_))))))
   refine W.p2 (.bool false) (W.q6 rfl rfl (W.q6 rfl rfl (W.q5 (.bool false) rfl rfl (W.p2 (.bool false) (W.q6 rfl rfl (W.q6 rfl rfl ?_))))))
   refine W.q6 rfl rfl (W.q5 (.bool false) rfl rfl (W.p2 (.bool false) (W.q6 rfl rfl (W.q6 rfl rfl (W.q6 rfl rfl (W.q5 (.bool false) rfl rfl ?_))))))
   refine W.p1 (.bool false) (.nil ?_)
   obtain ⟨sJ, iW, iX, sK⟩ := I.frzSl (j := 1) rfl
   obtain ⟨sL, iY, iZ, sM⟩ := iW.frzSl (j := 1) rfl
   obtain ⟨sN, i0, i1, sO⟩ := iY.frzSl (j := 1) rfl
   obtain ⟨sP, i2, i3, sQ⟩ := i0.frzSl (j := 1) rfl
   obtain ⟨sR, i4, i5, sS⟩ := i2.frzSl (j := 1) rfl
   obtain ⟨sT, i6, i7, sU⟩ := i4.frzSl (j := 1) rfl
   obtain ⟨sV, i8, i9, sW⟩ := i6.frzVar (j := 0) rfl
   have ja := zAe iX (zAe iZ (zAe i1 (zAe i3 (zAe i5 (zAe i7 i9)))))
   obtain rfl := zAa iV
   exact ⟨false, _, rfl, i8, ja, rfl⟩
  have dd := z01 bz dc
  refine W.q2 (hg := gk rfl rfl an rfl) (.string g.1) rfl (W.pure (v := (.bool (sEq g.1 (⟨#[]⟩ : zAd)))) (gl rfl an) rfl (z69 ov ov) (W.q4 (.bool (sEq g.1 (⟨#[]⟩ : zAd))) an rfl (W.p2 (.bool (sEq g.1 (⟨#[]⟩ : zAd))) (W.splitAt (t := 76) (b := sEq g.1 (⟨#[]⟩ : zAd)) rfl (fun bA ao => ?_) (fun bA ao => ?_)))))
  rotate_left
  .have jb := z11 bA dd
   refine W.q6 rfl ao (W.q6 rfl ao (W.q5 (.bool false) ao rfl (W.p2 (.bool false) (W.q6 rfl rfl (W.q6 rfl rfl (W.q5 (.bool false) rfl rfl ?_))))))
   refine W.p2 (.bool false) (W.q6 rfl rfl (W.q6 rfl rfl (W.q6 rfl rfl (W.q5 (.bool false) rfl rfl (W.p2 (.bool false) (W.q6 rfl rfl ?_))))))
   refine W.q6 rfl rfl (W.q6 rfl rfl (W.q5 (.bool false) rfl rfl (W.p1 (.bool false) (.nil ?_))))
   obtain ⟨sX, jc, jd, sY⟩ := I.frzSl (j := 1) rfl
   obtain ⟨sZ, je, jf, s0⟩ := jc.frzSl (j := 1) rfl
   obtain ⟨s1, jg, jh, s2⟩ := je.frzSl (j := 1) rfl
   obtain ⟨s3, ji, jj, s4⟩ := jg.frzSl (j := 1) rfl
   obtain ⟨s5, jk, jl, s6⟩ := ji.frzSl (j := 1) rfl
   obtain ⟨s7, jm, jn, s8⟩ := jk.frzSl (j := 1) rfl
   obtain ⟨s9, jo, jp, ta⟩ := jm.frzVar (j := 0) rfl
   have jq := zAe jd (zAe jf (zAe jh (zAe jj (zAe jl (zAe jn jp)))))
   obtain rfl := zAa jb
   exact ⟨false, _, rfl, jo, jq, rfl⟩
  have de := z01 bA dd
  refine W.q2 (hg := gk rfl rfl ao rfl) (.int .i64 g.2.1) rfl (W.q3 (hg := gk rfl rfl ao rfl) (.bool (g.2.1 == 0)) rfl rfl (W.q4 (.bool (g.2.1 == 0)) ao rfl (W.p2 (.bool (g.2.1 == 0)) (W.splitAt (t := 80) (b := (g.2.1 == 0)) rfl (fun bB ap => ?_) (fun bB ap => ?_)))))
  rotate_left
  .have jr := z11 bB de
   refine W.q6 rfl ap (W.q6 rfl ap (W.q5 (.bool false) ap rfl (W.p2 (.bool false) (W.q6 rfl rfl (W.q6 rfl rfl (W.q6 rfl rfl ?_))))))
   refine W.q5 (.bool false) rfl rfl (W.p2 (.bool false) (W.q6 rfl rfl (W.q6 rfl rfl (W.q6 rfl rfl (W.q5 (.bool false) rfl rfl (W.p1 (.bool false) ?_))))))
   refine .nil ?_
   obtain ⟨tb, js, jt, tc⟩ := I.frzSl (j := 1) rfl
   obtain ⟨td, ju, jv, te⟩ := js.frzSl (j := 1) rfl
   obtain ⟨tf, jw, jx, tg⟩ := ju.frzSl (j := 1) rfl
   obtain ⟨th, jy, jz, ti⟩ := jw.frzSl (j := 1) rfl
   obtain ⟨tj, jA, jB, tk⟩ := jy.frzSl (j := 1) rfl
   obtain ⟨tl, jC, jD, tm⟩ := jA.frzSl (j := 1) rfl
   obtain ⟨tn, jE, jF, tp⟩ := jC.frzVar (j := 0) rfl
   have jG := zAe jt (zAe jv (zAe jx (zAe jz (zAe jB (zAe jD jF)))))
   obtain rfl := zAa jr
   exact ⟨false, _, rfl, jE, jG, rfl⟩
  have df := z01 bB de
  refine W.q2 (hg := gk rfl rfl ap rfl) (.int .i64 k.1) rfl (W.q3 (hg := gk rfl rfl ap rfl) (.bool (k.1 == 0)) rfl rfl (W.q4 (.bool (k.1 == 0)) ap rfl (W.p2 (.bool (k.1 == 0)) (W.splitAt (t := 84) (b := (k.1 == 0)) rfl (fun bC S => ?_) (fun bC S => ?_)))))
  rotate_left
  .have jH := z11 bC df
   refine W.q6 rfl S (W.q6 rfl S (W.q6 rfl S (W.q5 (.bool false) S rfl (W.p2 (.bool false) (W.q6 rfl rfl (W.q6 rfl rfl ?_))))))
   refine W.q6 rfl rfl (W.q5 (.bool false) rfl rfl (W.p1 (.bool false) (.nil ?_)))
   obtain ⟨tq, jI, jJ, tr⟩ := I.frzSl (j := 1) rfl
   obtain ⟨ts, jK, jL, tt⟩ := jI.frzSl (j := 1) rfl
   obtain ⟨tu, jM, jN, tv⟩ := jK.frzSl (j := 1) rfl
   obtain ⟨tw, jO, jP, tx⟩ := jM.frzSl (j := 1) rfl
   obtain ⟨ty, jQ, jR, tz⟩ := jO.frzSl (j := 1) rfl
   obtain ⟨tA, jS, jT, tB⟩ := jQ.frzSl (j := 1) rfl
   obtain ⟨tC, jU, jV, tD⟩ := jS.frzVar (j := 0) rfl
   have jW := zAe jJ (zAe jL (zAe jN (zAe jP (zAe jR (zAe jT jV)))))
   obtain rfl := zAa jH
   exact ⟨false, _, rfl, jU, jW, rfl⟩
  have jX := z01 bC df
  refine W.q2 (hg := gk rfl rfl S rfl) (.func (.func 9) #[] #[]) rfl ?_
  obtain ⟨dg, jY, dh⟩ := (I.atVar (j := 7) rfl)
  refine W.loadA (cs := dg) (gl rfl S) rfl ag29 sz29 (z0f rfl jY) (RT.len _ dh) ?_
  obtain ⟨bD, jZ, di⟩ := z03 jX
  refine W.lo (gl rfl S) rfl (Lo.callvP (ps := []) (ps' := []) rfl rfl (fn := Tryd.f9) (by kernel_rfl) rfl (mc rfl mn) I (fun ak A => z1f K dg p.1 dh A _ jZ)) ?_
  rintro tE tF ⟨tG, bE, dj, pI, rfl⟩
  refine W.q4 (.bool bD) S rfl (W.p2 (.bool bD) (W.splitAt (t := 89) (b := bD) rfl (fun bF T => ?_) (fun bF T => ?_)))
  rotate_left
  .have j0 := z11 bF di
   refine W.q6 rfl T (W.q6 rfl T (W.q6 rfl T (W.q5 (.bool false) T rfl (W.p1 (.bool false) (.nil ?_)))))
   obtain ⟨tH, j1, j2, tI⟩ := bE.frzSl (j := 1) rfl
   obtain ⟨tJ, j3, j4, tK⟩ := j1.frzSl (j := 1) rfl
   obtain ⟨tL, j5, j6, tM⟩ := j3.frzSl (j := 1) rfl
   obtain ⟨tN, j7, j8, tO⟩ := j5.frzSl (j := 1) rfl
   obtain ⟨tP, j9, ka, tQ⟩ := j7.frzSl (j := 1) rfl
   obtain ⟨tR, kb, kc, tS⟩ := j9.frzSl (j := 1) rfl
   obtain ⟨tT, kd, ke, tU⟩ := kb.frzVar (j := 0) rfl
   have kf := zAe dj (zAe j2 (zAe j4 (zAe j6 (zAe j8 (zAe ka (zAe kc ke))))))
   obtain rfl := zAa j0
   exact ⟨false, _, rfl, kd, kf, rfl⟩
  have kg := z01 bF di
  refine W.q2 (hg := gk rfl rfl T rfl) (.func (.func 9) #[] #[]) rfl ?_
  obtain ⟨dk, kh, dl⟩ := (bE.atVar (j := 0) rfl)
  refine W.loadA (cs := dk) (gl rfl T) rfl ag29 sz29 (z0f rfl kh) (RT.len _ dl) ?_
  obtain ⟨tV, ki, dm, dn⟩ := bE.frzSl (j := 1) rfl
  obtain ⟨tW, kj, bG, dp⟩ := ki.frzSl (j := 1) rfl
  obtain ⟨tX, kk, a3, dq⟩ := kj.frzSl (j := 1) rfl
  obtain ⟨tY, kl, aZ, dr⟩ := kk.frzSl (j := 1) rfl
  obtain ⟨tZ, km, aI, ds⟩ := kl.frzSl (j := 1) rfl
  obtain ⟨t0, kn, aq, dt⟩ := km.frzSl (j := 1) rfl
  have hI := zAe aZ (zAe aI aq)
  have hJ := zAe a3 (zAe aZ (zAe aI aq))
  have du := zAe bG (zAe a3 (zAe aZ (zAe aI aq)))
  have ko := zAe dm (zAe bG (zAe a3 (zAe aZ (zAe aI aq))))
  have kp := z1p (RT.mono _ ko dl) (RT.mono _ du dn) (RT.mono _ hJ dp) (RT.mono _ hI dq) (RT.mono _ (zAe aI aq) dr) (RT.mono _ aq ds) dt
  have ks := kn.recell (s := z00) (y0 := c.1) (j := 0) rfl (fun cs h => z1p h (RT.mono _ du dn) (RT.mono _ hJ dp) (RT.mono _ hI dq) (RT.mono _ (zAe aI aq) dr) (RT.mono _ aq ds) dt)
  obtain ⟨bH, kt, ku⟩ := z03 kg
  refine W.lo (gl rfl T) rfl (Lo.callvP (ps := []) (ps' := []) rfl rfl (fn := Tryd.f9) (by kernel_rfl) rfl (mc rfl mn) ks (fun ak A => z1f K dk c.1 kp A _ kt)) ?_
  rintro t1 t2 ⟨t3, kv, kx, pJ, rfl⟩
  refine W.q4 (.bool bH) T rfl (W.p1 (.bool bH) (.nil ?_))
  obtain ⟨t4, ky, kz, t5⟩ := kv.frzVar (j := 0) rfl
  have kA := zAe dj (zAe dm (zAe bG (zAe a3 (zAe aZ (zAe aI (zAe aq (zAe kx kz)))))))
  obtain rfl := zAa ku
  exact ⟨bH, _, rfl, ky, kA, rfl⟩
 have kB := z11 bu c8
 refine .skip (.seq (.region ?_))
 obtain ⟨dv, kC, dw⟩ := (I.atVar (j := 9) rfl)
 refine W.loadA (cs := dv) rfl rfl ag29 sz29 (z0f rfl kC) (RT.len _ dw) (W.l1 (.string aj) ag9 (z0f rfl (At.str (I.atVar (j := 8) rfl))) ?_)
 obtain ⟨e, kD, dx⟩ := z03 kB
 refine W.ln (Lo.cQ Tryd.f12 (mc rfl (mc rfl mn)) I (fun ak A => zda K dv al dw aj A _ kD)) ?_
 rintro t6 t7 ⟨dy, J, dz, pK, rfl⟩
 refine W.p2 (.tuple #[(.string e.1), (.int .i64 e.2)]) (W.pv (.string e.1) (z39 ov rfl) (W.pv (.int .i64 e.2) (z39 ov rfl) (W.p1 (.string e.1) (W.p1 (.int .i64 e.2) (.nil (.seq ?_))))))
 refine .seq (.region (W.p2 (.string e.1) (W.pv (.bool (sEq e.1 (⟨#[]⟩ : zAd))) (z69 ov ov) (.nil (.cond (b := sEq e.1 (⟨#[]⟩ : zAd)) rfl rfl (fun bI => ?_) (fun bI => ?_))))))
 .have kE := z01 bI dx
  refine .seq ?_
  obtain ⟨kF, dA, kG⟩ := z03 kE
  refine AW.midT (fun ad aH => ∃ (ae : Bool) (F : GM), ae = kF /\ Ow F aH (eVar aN 29 z00 p.1 :: eVar br 9 rS aj :: eVar a2 29 z00 al :: L) /\ GM.le dy F /\ ad 6 = .bool ae) ?_ ?_
  rotate_left
  .rintro pL t8 pM ⟨kH, t9, rfl, kI, kJ, kK⟩
   have kL := zAe cb (zAe cX (zAe cZ (zAe c0 (zAe c3 (zAe bt (zAe dz kJ))))))
   have kM := z0k kG
   refine .ret ?_
   have kN := ((kI.drop 0).drop 0).drop 0
   obtain rfl := zAa kM
   exact z41 kr (v1 := (.bool kH)) (by rfl) (zb0 (by rfl) (by exact kK)) kN kL rfl
  refine .region (W.p2 (.int .i64 g.2.2) (W.p3 (.bool (g.2.2 == 6)) (W.p2 (.bool (g.2.2 == 6)) (W.splitAt (t := 104) (b := (g.2.2 == 6)) rfl (fun bJ ar => ?_) (fun bJ ar => ?_)))))
  rotate_left
  .have kO := z11 bJ dA
   refine W.q6 rfl ar (W.q6 rfl ar (W.q5 (.bool false) ar rfl (W.p2 (.bool false) (W.q6 rfl rfl (W.q6 rfl rfl (W.q5 (.bool false) rfl rfl ?_))))))
   refine W.p2 (.bool false) (W.q6 rfl rfl (W.q6 rfl rfl (W.q5 (.bool false) rfl rfl (W.p2 (.bool false) (W.q6 rfl rfl (W.q6 rfl rfl ?_))))))
   refine W.q5 (.bool false) rfl rfl (W.p2 (.bool false) (W.q6 rfl rfl (W.q6 rfl rfl (W.q5 (.bool false) rfl rfl (W.p2 (.bool false) (W.q6 rfl rfl ?_))))))
   refine W.q6 rfl rfl (W.q5 (.bool false) rfl rfl (W.p2 (.bool false) (W.q6 rfl rfl (W.q6 rfl rfl (W.q6 rfl rfl (W.q5 (.bool false) rfl rfl ?_))))))
   refine W.p2 (.bool false) (W.q6 rfl rfl (W.q6 rfl rfl (W.q6 rfl rfl (W.q5 (.bool false) rfl rfl (W.p1 (.bool false) (.nil ?_))))))
   obtain ⟨ua, kP, kQ, uc⟩ := J.frzSl (j := 1) rfl
   obtain ⟨ud, kR, kS, ue⟩ := kP.frzSl (j := 1) rfl
   obtain ⟨uf, kT, kU, ug⟩ := kR.frzSl (j := 1) rfl
   obtain ⟨uh, kV, kW, ui⟩ := kT.frzSl (j := 1) rfl
   obtain ⟨uj, kX, kY, uk⟩ := kV.frzSl (j := 1) rfl
   obtain ⟨ul, kZ, k0, um⟩ := kX.frzSl (j := 1) rfl
   obtain ⟨un, k1, k2, uo⟩ := kZ.frzVar (j := 0) rfl
   have k3 := zAe kQ (zAe kS (zAe kU (zAe kW (zAe kY (zAe k0 k2)))))
   obtain rfl := zAa kO
   exact ⟨false, _, rfl, k1, k3, rfl⟩
  have dB := z01 bJ dA
  refine W.q2 (hg := gk rfl rfl ar rfl) (.int .i64 k.2) rfl (W.q3 (hg := gk rfl rfl ar rfl) (.bool (k.2 == 6)) rfl rfl (W.q4 (.bool (k.2 == 6)) ar rfl (W.p2 (.bool (k.2 == 6)) (W.splitAt (t := 108) (b := (k.2 == 6)) rfl (fun bK au => ?_) (fun bK au => ?_)))))
  rotate_left
  .have k4 := z11 bK dB
   refine W.q6 rfl au (W.q6 rfl au (W.q5 (.bool false) au rfl (W.p2 (.bool false) (W.q6 rfl rfl (W.q6 rfl rfl (W.q5 (.bool false) rfl rfl ?_))))))
   refine W.p2 (.bool false) (W.q6 rfl rfl (W.q6 rfl rfl (W.q5 (.bool false) rfl rfl (W.p2 (.bool false) (W.q6 rfl rfl (W.q6 rfl rfl ?_))))))
   refine W.q5 (.bool false) rfl rfl (W.p2 (.bool false) (W.q6 rfl rfl (W.q6 rfl rfl (W.q5 (.bool false) rfl rfl (W.p2 (.bool false) (W.q6 rfl rfl ?_))))))
   refine W.q6 rfl rfl (W.q6 rfl rfl (W.q5 (.bool false) rfl rfl (W.p2 (.bool false) (W.q6 rfl rfl (W.q6 rfl rfl (W.q6 rfl rfl ?_))))))
   refine W.q5 (.bool false) rfl rfl (W.p1 (.bool false) (.nil ?_))
   obtain ⟨uq, k5, k6, ur⟩ := J.frzSl (j := 1) rfl
   obtain ⟨us, k7, k8, ut⟩ := k5.frzSl (j := 1) rfl
   obtain ⟨uu, k9, la, uv⟩ := k7.frzSl (j := 1) rfl
   obtain ⟨uw, lb, lc, ux⟩ := k9.frzSl (j := 1) rfl
   obtain ⟨uy, ld, lf, uz⟩ := lb.frzSl (j := 1) rfl
   obtain ⟨uA, lg, lh, uB⟩ := ld.frzSl (j := 1) rfl
   obtain ⟨uC, li, lj, uD⟩ := lg.frzVar (j := 0) rfl
   have lk := zAe k6 (zAe k8 (zAe la (zAe lc (zAe lf (zAe lh lj)))))
   obtain rfl := zAa k4
   exact ⟨false, _, rfl, li, lk, rfl⟩
  have dC := z01 bK dB
  refine W.q2 (hg := gk rfl rfl au rfl) (.int .i64 p.2) rfl (W.q3 (hg := gk rfl rfl au rfl) (.bool (p.2 == 6)) rfl rfl (W.q4 (.bool (p.2 == 6)) au rfl (W.p2 (.bool (p.2 == 6)) (W.splitAt (t := 112) (b := (p.2 == 6)) rfl (fun bL av => ?_) (fun bL av => ?_)))))
  rotate_left
  .have ll := z11 bL dC
   refine W.q6 rfl av (W.q6 rfl av (W.q5 (.bool false) av rfl (W.p2 (.bool false) (W.q6 rfl rfl (W.q6 rfl rfl (W.q5 (.bool false) rfl rfl ?_))))))
   refine W.p2 (.bool false) (W.q6 rfl rfl (W.q6 rfl rfl (W.q5 (.bool false) rfl rfl (W.p2 (.bool false) (W.q6 rfl rfl (W.q6 rfl rfl ?_))))))
   refine W.q5 (.bool false) rfl rfl (W.p2 (.bool false) (W.q6 rfl rfl (W.q6 rfl rfl (W.q6 rfl rfl (W.q5 (.bool false) rfl rfl (W.p2 (.bool false) ?_))))))
   refine W.q6 rfl rfl (W.q6 rfl rfl (W.q6 rfl rfl (W.q5 (.bool false) rfl rfl (W.p1 (.bool false) (.nil ?_)))))
   obtain ⟨uE, lm, lp, uF⟩ := J.frzSl (j := 1) rfl
   obtain ⟨uG, lq, lr, uH⟩ := lm.frzSl (j := 1) rfl
   obtain ⟨uI, ls, lu, uJ⟩ := lq.frzSl (j := 1) rfl
   obtain ⟨uK, lv, lw, uL⟩ := ls.frzSl (j := 1) rfl
   obtain ⟨uM, lx, ly, uN⟩ := lv.frzSl (j := 1) rfl
   obtain ⟨uO, lz, lA, uP⟩ := lx.frzSl (j := 1) rfl
   obtain ⟨uQ, lB, lC, uR⟩ := lz.frzVar (j := 0) rfl
   have lD := zAe lp (zAe lr (zAe lu (zAe lw (zAe ly (zAe lA lC)))))
   obtain rfl := zAa ll
   exact ⟨false, _, rfl, lB, lD, rfl⟩
  have dD := z01 bL dC
  refine W.q2 (hg := gk rfl rfl av rfl) (.int .i64 c.2) rfl (W.q3 (hg := gk rfl rfl av rfl) (.bool (c.2 == 6)) rfl rfl (W.q4 (.bool (c.2 == 6)) av rfl (W.p2 (.bool (c.2 == 6)) (W.splitAt (t := 116) (b := (c.2 == 6)) rfl (fun bM aw => ?_) (fun bM aw => ?_)))))
  rotate_left
  .have lE := z11 bM dD
   refine W.q6 rfl aw (W.q6 rfl aw (W.q5 (.bool false) aw rfl (W.p2 (.bool false) (W.q6 rfl rfl (W.q6 rfl rfl (W.q5 (.bool false) rfl rfl ?_))))))
   refine W.p2 (.bool false) (W.q6 rfl rfl (W.q6 rfl rfl (W.q5 (.bool false) rfl rfl (W.p2 (.bool false) (W.q6 rfl rfl (W.q6 rfl rfl ?_))))))
   refine W.q6 rfl rfl (W.q5 (.bool false) rfl rfl (W.p2 (.bool false) (W.q6 rfl rfl (W.q6 rfl rfl (W.q6 rfl rfl (W.q5 (.bool false) rfl rfl ?_))))))
   refine W.p1 (.bool false) (.nil ?_)
   obtain ⟨uS, lF, lG, uT⟩ := J.frzSl (j := 1) rfl
   obtain ⟨uU, lH, lI, uV⟩ := lF.frzSl (j := 1) rfl
   obtain ⟨uW, lJ, lK, uX⟩ := lH.frzSl (j := 1) rfl
   obtain ⟨uY, lL, lM, uZ⟩ := lJ.frzSl (j := 1) rfl
   obtain ⟨u0, lN, lO, u1⟩ := lL.frzSl (j := 1) rfl
   obtain ⟨u2, lP, lQ, u3⟩ := lN.frzSl (j := 1) rfl
   obtain ⟨u4, lR, lS, u5⟩ := lP.frzVar (j := 0) rfl
   have lT := zAe lG (zAe lI (zAe lK (zAe lM (zAe lO (zAe lQ lS)))))
   obtain rfl := zAa lE
   exact ⟨false, _, rfl, lR, lT, rfl⟩
  have dE := z01 bM dD
  refine W.q2 (hg := gk rfl rfl aw rfl) (.string g.1) rfl (W.pure (v := (.bool (sEq g.1 (⟨#[]⟩ : zAd)))) (gl rfl aw) rfl (z69 ov ov) (W.q4 (.bool (sEq g.1 (⟨#[]⟩ : zAd))) aw rfl (W.p2 (.bool (sEq g.1 (⟨#[]⟩ : zAd))) (W.splitAt (t := 120) (b := sEq g.1 (⟨#[]⟩ : zAd)) rfl (fun bN ax => ?_) (fun bN ax => ?_)))))
  rotate_left
  .have lU := z11 bN dE
   refine W.q6 rfl ax (W.q6 rfl ax (W.q5 (.bool false) ax rfl (W.p2 (.bool false) (W.q6 rfl rfl (W.q6 rfl rfl (W.q5 (.bool false) rfl rfl ?_))))))
   refine W.p2 (.bool false) (W.q6 rfl rfl (W.q6 rfl rfl (W.q6 rfl rfl (W.q5 (.bool false) rfl rfl (W.p2 (.bool false) (W.q6 rfl rfl ?_))))))
   refine W.q6 rfl rfl (W.q6 rfl rfl (W.q5 (.bool false) rfl rfl (W.p1 (.bool false) (.nil ?_))))
   obtain ⟨u6, lV, lW, u7⟩ := J.frzSl (j := 1) rfl
   obtain ⟨u8, lX, lY, u9⟩ := lV.frzSl (j := 1) rfl
   obtain ⟨va, lZ, l0, vb⟩ := lX.frzSl (j := 1) rfl
   obtain ⟨vc, l2, l3, vd⟩ := lZ.frzSl (j := 1) rfl
   obtain ⟨ve, l4, l5, vf⟩ := l2.frzSl (j := 1) rfl
   obtain ⟨vg, l6, l7, vh⟩ := l4.frzSl (j := 1) rfl
   obtain ⟨vi, l8, l9, vj⟩ := l6.frzVar (j := 0) rfl
   have ma := zAe lW (zAe lY (zAe l0 (zAe l3 (zAe l5 (zAe l7 l9)))))
   obtain rfl := zAa lU
   exact ⟨false, _, rfl, l8, ma, rfl⟩
  have dF := z01 bN dE
  refine W.q2 (hg := gk rfl rfl ax rfl) (.int .i64 g.2.1) rfl (W.q3 (hg := gk rfl rfl ax rfl) (.bool (g.2.1 == 0)) rfl rfl (W.q4 (.bool (g.2.1 == 0)) ax rfl (W.p2 (.bool (g.2.1 == 0)) (W.splitAt (t := 124) (b := (g.2.1 == 0)) rfl (fun bO ay => ?_) (fun bO ay => ?_)))))
  rotate_left
  .have mb := z11 bO dF
   refine W.q6 rfl ay (W.q6 rfl ay (W.q5 (.bool false) ay rfl (W.p2 (.bool false) (W.q6 rfl rfl (W.q6 rfl rfl (W.q6 rfl rfl ?_))))))
   refine W.q5 (.bool false) rfl rfl (W.p2 (.bool false) (W.q6 rfl rfl (W.q6 rfl rfl (W.q6 rfl rfl (W.q5 (.bool false) rfl rfl (W.p1 (.bool false) ?_))))))
   refine .nil ?_
   obtain ⟨vk, md, me, vl⟩ := J.frzSl (j := 1) rfl
   obtain ⟨vm, mf, mg, vn⟩ := md.frzSl (j := 1) rfl
   obtain ⟨vo, mh, mi, vp⟩ := mf.frzSl (j := 1) rfl
   obtain ⟨vq, mj, ml, vr⟩ := mh.frzSl (j := 1) rfl
   obtain ⟨vt, mm, mo, vu⟩ := mj.frzSl (j := 1) rfl
   obtain ⟨vv, mp, mq, vw⟩ := mm.frzSl (j := 1) rfl
   obtain ⟨vx, mr, ms, vy⟩ := mp.frzVar (j := 0) rfl
   have mt := zAe me (zAe mg (zAe mi (zAe ml (zAe mo (zAe mq ms)))))
   obtain rfl := zAa mb
   exact ⟨false, _, rfl, mr, mt, rfl⟩
  have dG := z01 bO dF
  refine W.q2 (hg := gk rfl rfl ay rfl) (.int .i64 k.1) rfl (W.q3 (hg := gk rfl rfl ay rfl) (.bool (k.1 == 0)) rfl rfl (W.q4 (.bool (k.1 == 0)) ay rfl (W.p2 (.bool (k.1 == 0)) (W.splitAt (t := 128) (b := (k.1 == 0)) rfl (fun bP U => ?_) (fun bP U => ?_)))))
  rotate_left
  .have mu := z11 bP dG
   refine W.q6 rfl U (W.q6 rfl U (W.q6 rfl U (W.q5 (.bool false) U rfl (W.p2 (.bool false) (W.q6 rfl rfl (W.q6 rfl rfl ?_))))))
   refine W.q6 rfl rfl (W.q5 (.bool false) rfl rfl (W.p1 (.bool false) (.nil ?_)))
   obtain ⟨vz, mv, mw, vA⟩ := J.frzSl (j := 1) rfl
   obtain ⟨vB, mx, my, vC⟩ := mv.frzSl (j := 1) rfl
   obtain ⟨vD, mz, mA, vE⟩ := mx.frzSl (j := 1) rfl
   obtain ⟨vF, mB, mC, vG⟩ := mz.frzSl (j := 1) rfl
   obtain ⟨vH, mD, mE, vI⟩ := mB.frzSl (j := 1) rfl
   obtain ⟨vJ, mF, mG, vK⟩ := mD.frzSl (j := 1) rfl
   obtain ⟨vL, mH, mI, vM⟩ := mF.frzVar (j := 0) rfl
   have mJ := zAe mw (zAe my (zAe mA (zAe mC (zAe mE (zAe mG mI)))))
   obtain rfl := zAa mu
   exact ⟨false, _, rfl, mH, mJ, rfl⟩
  have mK := z01 bP dG
  refine W.q2 (hg := gk rfl rfl U rfl) (.func (.func 9) #[] #[]) rfl ?_
  obtain ⟨dH, mL, dI⟩ := (J.atVar (j := 7) rfl)
  refine W.loadA (cs := dH) (gl rfl U) rfl ag29 sz29 (z0f rfl mL) (RT.len _ dI) ?_
  obtain ⟨bQ, mM, dJ⟩ := z03 mK
  refine W.lo (gl rfl U) rfl (Lo.callvP (ps := []) (ps' := []) rfl rfl (fn := Tryd.f9) (by kernel_rfl) rfl (mc rfl mn) J (fun ak A => z1f K dH p.1 dI A _ mM)) ?_
  rintro vN vO ⟨vP, bR, dK, pN, rfl⟩
  refine W.q4 (.bool bQ) U rfl (W.p2 (.bool bQ) (W.splitAt (t := 133) (b := bQ) rfl (fun bS V => ?_) (fun bS V => ?_)))
  rotate_left
  .have mN := z11 bS dJ
   refine W.q6 rfl V (W.q6 rfl V (W.q6 rfl V (W.q5 (.bool false) V rfl (W.p1 (.bool false) (.nil ?_)))))
   obtain ⟨vQ, mO, mP, vR⟩ := bR.frzSl (j := 1) rfl
   obtain ⟨vS, mQ, mR, vT⟩ := mO.frzSl (j := 1) rfl
   obtain ⟨vU, mS, mT, vV⟩ := mQ.frzSl (j := 1) rfl
   obtain ⟨vW, mU, mV, vX⟩ := mS.frzSl (j := 1) rfl
   obtain ⟨vY, mW, mX, vZ⟩ := mU.frzSl (j := 1) rfl
   obtain ⟨v0, mY, mZ, v2⟩ := mW.frzSl (j := 1) rfl
   obtain ⟨v3, m0, m1, v4⟩ := mY.frzVar (j := 0) rfl
   have m2 := zAe dK (zAe mP (zAe mR (zAe mT (zAe mV (zAe mX (zAe mZ m1))))))
   obtain rfl := zAa mN
   exact ⟨false, _, rfl, m0, m2, rfl⟩
  have m3 := z01 bS dJ
  refine W.q2 (hg := gk rfl rfl V rfl) (.func (.func 9) #[] #[]) rfl ?_
  obtain ⟨dL, m4, dM⟩ := (bR.atVar (j := 0) rfl)
  refine W.loadA (cs := dL) (gl rfl V) rfl ag29 sz29 (z0f rfl m4) (RT.len _ dM) ?_
  obtain ⟨v5, m5, dN, dO⟩ := bR.frzSl (j := 1) rfl
  obtain ⟨v6, m6, bT, dP⟩ := m5.frzSl (j := 1) rfl
  obtain ⟨v7, m7, a4, dQ⟩ := m6.frzSl (j := 1) rfl
  obtain ⟨v8, m8, a0, dR⟩ := m7.frzSl (j := 1) rfl
  obtain ⟨v9, m9, aJ, dS⟩ := m8.frzSl (j := 1) rfl
  obtain ⟨wa, na, az, dT⟩ := m9.frzSl (j := 1) rfl
  have hK := zAe a0 (zAe aJ az)
  have hL := zAe a4 (zAe a0 (zAe aJ az))
  have dU := zAe bT (zAe a4 (zAe a0 (zAe aJ az)))
  have nb := zAe dN (zAe bT (zAe a4 (zAe a0 (zAe aJ az))))
  have nc := z1p (RT.mono _ nb dM) (RT.mono _ dU dO) (RT.mono _ hL dP) (RT.mono _ hK dQ) (RT.mono _ (zAe aJ az) dR) (RT.mono _ az dS) dT
  have nd := na.recell (s := z00) (y0 := c.1) (j := 0) rfl (fun cs h => z1p h (RT.mono _ dU dO) (RT.mono _ hL dP) (RT.mono _ hK dQ) (RT.mono _ (zAe aJ az) dR) (RT.mono _ az dS) dT)
  obtain ⟨bU, ne, nf⟩ := z03 m3
  refine W.lo (gl rfl V) rfl (Lo.callvP (ps := []) (ps' := []) rfl rfl (fn := Tryd.f9) (by kernel_rfl) rfl (mc rfl mn) nd (fun ak A => z1f K dL c.1 nc A _ ne)) ?_
  rintro wb wc ⟨wd, ng, nh, pO, rfl⟩
  refine W.q4 (.bool bU) V rfl (W.p1 (.bool bU) (.nil ?_))
  obtain ⟨we, ni, nj, wf⟩ := ng.frzVar (j := 0) rfl
  have nk := zAe dK (zAe dN (zAe bT (zAe a4 (zAe a0 (zAe aJ (zAe az (zAe nh nj)))))))
  obtain rfl := zAa nf
  exact ⟨bU, _, rfl, ni, nk, rfl⟩
 have nl := z11 bI dx
 refine .skip (.seq (.seq ?_))
 obtain ⟨nm, dV, nn⟩ := z03 nl
 refine AW.midT (fun ad aH => ∃ (ae : Bool) (F : GM), ae = nm /\ Ow F aH (eVar aY 29 z18 (c.1, (oV d 0), (oV d 1), (oV d 2), (oV d 3), (oV d 4), (oV d 5)) :: eSl (oV d 0) 9 rS c.1.Nodes :: eSl (oV d 1) 52 z0x c.1.Switches :: eSl (oV d 2) 59 z0i c.1.Branches :: eSl (oV d 3) 67 z6b c.1.Gens :: eSl (oV d 4) 71 z1w c.1.Loads :: eSl (oV d 5) 75 z1o c.1.Stores :: eVar aN 29 z00 p.1 :: eVar br 9 rS aj :: eVar a2 29 z00 al :: L) /\ GM.le dy F /\ ad 149 = .bool ae) ?_ ?_
 .refine .region (W.p2 (.int .i64 g.2.2) (W.p3 (.bool (g.2.2 != 0)) (W.p2 (.bool (g.2.2 != 0)) (W.splitAt (t := 140) (b := (g.2.2 != 0)) rfl (fun bV X => ?_) (fun bV X => ?_)))))
  .have no := z01 bV dV
   refine W.q6 rfl X (W.q6 rfl X (W.q6 rfl X (W.q4 (.bool true) X rfl (W.p2 (.bool true) (W.q6 rfl rfl (W.q6 rfl rfl ?_))))))
   refine W.q6 rfl rfl (W.q4 (.bool true) rfl rfl (.nil ?_))
   obtain rfl := zAa no
   exact ⟨true, _, rfl, J, (zAf _), rfl⟩
  have dW := z11 bV dV
  refine W.q2 (hg := gk rfl rfl X rfl) (.string g.1) rfl (W.q2 (hg := gk rfl rfl X rfl) (.string e.1) rfl (W.pure (v := (.bool (!(sEq g.1 e.1)))) (gl rfl X) rfl (zg0 ov ov) (W.q5 (.bool (!(sEq g.1 e.1))) X rfl (W.p2 (.bool (!(sEq g.1 e.1))) (W.splitAt (t := 145) (b := (!(sEq g.1 e.1))) rfl (fun bW Y => ?_) (fun bW Y => ?_))))))
  .have np := z01 bW dW
   refine W.q6 rfl Y (W.q6 rfl Y (W.q6 rfl Y (W.q4 (.bool true) Y rfl (.nil ?_))))
   obtain rfl := zAa np
   exact ⟨true, _, rfl, J, (zAf _), rfl⟩
  have nq := z11 bW dW
  refine W.q2 (hg := gk rfl rfl Y rfl) (.int .i64 g.2.1) rfl (W.q2 (hg := gk rfl rfl Y rfl) (.int .i64 e.2) rfl (W.q3 (hg := gk rfl rfl Y rfl) (.bool (g.2.1 != e.2)) rfl rfl (W.q5 (.bool (g.2.1 != e.2)) Y rfl (.nil ?_))))
  obtain rfl := zAa nq
  exact ⟨(g.2.1 != e.2), _, rfl, J, (zAf _), rfl⟩
 rintro pP wg f ⟨nr, dX, rfl, aA, ns, nt⟩
 have bX := zAe cb (zAe cX (zAe cZ (zAe c0 (zAe c3 (zAe bt (zAe dz ns))))))
 have dY := z0k nn
 refine .cond (b := nr) rfl nt (fun bY => ?_) (fun bY => ?_)
 .have nu := z01 bY dY
  refine .seq (.region (W.p1 (.bool false) (.nil (.ret ?_))))
  have nv := (((((((((aA.drop 0).drop 0).drop 0).drop 0).drop 0).drop 0).drop 0).drop 0).drop 0).drop 0
  obtain rfl := zAa nu
  exact z41 kr (v1 := (.bool false)) (by rfl) rt nv bX rfl
 have dZ := z11 bY dY
 refine .skip (.seq (.seq (.region (W.q2 (.string e.1) (ft (f 18 rfl) rfl) (W.pv (.bool (sEq e.1 (⟨#[110, 111, 100, 101]⟩ : zAd))) (z69 ov ov) (.nil ?_))))))
 refine .cond (b := sEq e.1 (⟨#[110, 111, 100, 101]⟩ : zAd)) rfl rfl (fun bZ => ?_) (fun bZ => ?_)
 .have nw := z01 bZ dZ
  refine .seq ?_
  obtain ⟨nx, d0, ny⟩ := z03 nw
  refine AW.midT (fun ad aH => ∃ (ae : Bool) (F : GM), ae = nx /\ Ow F aH (eVar aN 29 z00 p.1 :: eVar br 9 rS aj :: eVar a2 29 z00 al :: L) /\ GM.le dX F /\ ad 6 = .bool ae) ?_ ?_
  rotate_left
  .rintro pl pQ pm ⟨en, pR, rfl, eo, ep, eq⟩
   have nz := zAe bX ep
   have er := z0k ny
   refine .ret ?_
   have es := ((eo.drop 0).drop 0).drop 0
   obtain rfl := zAa er
   exact z41 kr (v1 := (.bool en)) (by rfl) (zb0 (by rfl) (by exact eq)) es nz rfl
  refine .region (W.q2 (.int .i64 k.2) (ft (f 11 rfl) rfl) (W.p3 (.bool (k.2 == 0)) (W.p2 (.bool (k.2 == 0)) (W.splitAt (t := 154) (b := (k.2 == 0)) rfl (fun b0 Z => ?_) (fun b0 Z => ?_)))))
  rotate_left
  .have et := z11 b0 d0
   refine W.q6 rfl Z (W.q6 rfl Z (W.q6 rfl Z (W.q5 (.bool false) Z rfl (W.p2 (.bool false) (W.q6 rfl rfl (W.q6 rfl rfl ?_))))))
   refine W.q5 (.bool false) rfl rfl (W.p2 (.bool false) (W.q6 rfl rfl (W.q6 rfl rfl (W.q5 (.bool false) rfl rfl (W.p2 (.bool false) (W.q6 rfl rfl ?_))))))
   refine W.q6 rfl rfl (W.q6 rfl rfl (W.q5 (.bool false) rfl rfl (W.p2 (.bool false) (W.q6 rfl rfl (W.q6 rfl rfl (W.q6 rfl rfl ?_))))))
   refine W.q5 (.bool false) rfl rfl (W.p1 (.bool false) (.nil ?_))
   obtain ⟨pS, eu, ev, pT⟩ := aA.frzSl (j := 1) rfl
   obtain ⟨pU, ew, ex, pV⟩ := eu.frzSl (j := 1) rfl
   obtain ⟨pW, ey, ez, pX⟩ := ew.frzSl (j := 1) rfl
   obtain ⟨pY, eA, eB, pZ⟩ := ey.frzSl (j := 1) rfl
   obtain ⟨p0, eC, eD, p1⟩ := eA.frzSl (j := 1) rfl
   obtain ⟨p2, eE, eF, p4⟩ := eC.frzSl (j := 1) rfl
   obtain ⟨p5, eG, eH, p6⟩ := eE.frzVar (j := 0) rfl
   have nA := zAe ev (zAe ex (zAe ez (zAe eB (zAe eD (zAe eF eH)))))
   obtain rfl := zAa et
   exact ⟨false, _, rfl, eG, nA, rfl⟩
  have d1 := z01 b0 d0
  refine W.q2 (hg := gk rfl rfl Z rfl) (.int .i64 k.1) (ft (f 10 rfl) rfl) (W.q2 (hg := gk rfl rfl Z rfl) (.int .i64 e.2) (ft (f 19 rfl) rfl) (W.q3 (hg := gk rfl rfl Z rfl) (.bool (k.1 == e.2)) rfl rfl (W.q4 (.bool (k.1 == e.2)) Z rfl (W.p2 (.bool (k.1 == e.2)) (W.splitAt (t := 159) (b := (k.1 == e.2)) rfl (fun b1 aB => ?_) (fun b1 aB => ?_))))))
  rotate_left
  .have nB := z11 b1 d1
   refine W.q6 rfl aB (W.q6 rfl aB (W.q5 (.bool false) aB rfl (W.p2 (.bool false) (W.q6 rfl rfl (W.q6 rfl rfl (W.q5 (.bool false) rfl rfl ?_))))))
   refine W.p2 (.bool false) (W.q6 rfl rfl (W.q6 rfl rfl (W.q6 rfl rfl (W.q5 (.bool false) rfl rfl (W.p2 (.bool false) (W.q6 rfl rfl ?_))))))
   refine W.q6 rfl rfl (W.q6 rfl rfl (W.q5 (.bool false) rfl rfl (W.p1 (.bool false) (.nil ?_))))
   obtain ⟨p7, eI, eJ, p8⟩ := aA.frzSl (j := 1) rfl
   obtain ⟨p9, eK, eL, qa⟩ := eI.frzSl (j := 1) rfl
   obtain ⟨qb, eM, eN, qd⟩ := eK.frzSl (j := 1) rfl
   obtain ⟨qe, eO, eP, qf⟩ := eM.frzSl (j := 1) rfl
   obtain ⟨qg, eQ, eR, qh⟩ := eO.frzSl (j := 1) rfl
   obtain ⟨qi, eS, eT, qj⟩ := eQ.frzSl (j := 1) rfl
   obtain ⟨qk, eU, eV, ql⟩ := eS.frzVar (j := 0) rfl
   have nC := zAe eJ (zAe eL (zAe eN (zAe eP (zAe eR (zAe eT eV)))))
   obtain rfl := zAa nB
   exact ⟨false, _, rfl, eU, nC, rfl⟩
  have d2 := z01 b1 d1
  refine W.q2 (hg := gk rfl rfl aB rfl) (.int .i64 p.2) (ft (f 13 rfl) rfl) (W.q3 (hg := gk rfl rfl aB rfl) (.bool (p.2 == 1)) rfl rfl (W.q4 (.bool (p.2 == 1)) aB rfl (W.p2 (.bool (p.2 == 1)) (W.splitAt (t := 163) (b := (p.2 == 1)) rfl (fun b2 aC => ?_) (fun b2 aC => ?_)))))
  rotate_left
  .have nD := z11 b2 d2
   refine W.q6 rfl aC (W.q6 rfl aC (W.q5 (.bool false) aC rfl (W.p2 (.bool false) (W.q6 rfl rfl (W.q6 rfl rfl (W.q6 rfl rfl ?_))))))
   refine W.q5 (.bool false) rfl rfl (W.p2 (.bool false) (W.q6 rfl rfl (W.q6 rfl rfl (W.q6 rfl rfl (W.q5 (.bool false) rfl rfl (W.p1 (.bool false) ?_))))))
   refine .nil ?_
   obtain ⟨wh, nE, nF, wi⟩ := aA.frzSl (j := 1) rfl
   obtain ⟨wj, nG, nH, wk⟩ := nE.frzSl (j := 1) rfl
   obtain ⟨wl, nI, nJ, wm⟩ := nG.frzSl (j := 1) rfl
   obtain ⟨wn, nK, nL, wo⟩ := nI.frzSl (j := 1) rfl
   obtain ⟨wp, nM, nN, wq⟩ := nK.frzSl (j := 1) rfl
   obtain ⟨wr, nO, nP, ws⟩ := nM.frzSl (j := 1) rfl
   obtain ⟨wt, nQ, nR, wu⟩ := nO.frzVar (j := 0) rfl
   have nS := zAe nF (zAe nH (zAe nJ (zAe nL (zAe nN (zAe nP nR)))))
   obtain rfl := zAa nD
   exact ⟨false, _, rfl, nQ, nS, rfl⟩
  have d3 := z01 b2 d2
  refine W.q2 (hg := gk rfl rfl aC rfl) (.int .i64 c.2) (ft (f 15 rfl) rfl) (W.q3 (hg := gk rfl rfl aC rfl) (.bool (c.2 == 1)) rfl rfl (W.q4 (.bool (c.2 == 1)) aC rfl (W.p2 (.bool (c.2 == 1)) (W.splitAt (t := 167) (b := (c.2 == 1)) rfl (fun b3 aa => ?_) (fun b3 aa => ?_)))))
  rotate_left
  .have nT := z11 b3 d3
   refine W.q6 rfl aa (W.q6 rfl aa (W.q6 rfl aa (W.q5 (.bool false) aa rfl (W.p2 (.bool false) (W.q6 rfl rfl (W.q6 rfl rfl ?_))))))
   refine W.q6 rfl rfl (W.q5 (.bool false) rfl rfl (W.p1 (.bool false) (.nil ?_)))
   obtain ⟨wv, nU, nV, ww⟩ := aA.frzSl (j := 1) rfl
   obtain ⟨wx, nW, nX, wy⟩ := nU.frzSl (j := 1) rfl
   obtain ⟨wz, nY, nZ, wA⟩ := nW.frzSl (j := 1) rfl
   obtain ⟨wB, n0, n1, wC⟩ := nY.frzSl (j := 1) rfl
   obtain ⟨wD, n2, n3, wE⟩ := n0.frzSl (j := 1) rfl
   obtain ⟨wF, n4, n5, wG⟩ := n2.frzSl (j := 1) rfl
   obtain ⟨wH, n6, n7, wI⟩ := n4.frzVar (j := 0) rfl
   have n8 := zAe nV (zAe nX (zAe nZ (zAe n1 (zAe n3 (zAe n5 n7)))))
   obtain rfl := zAa nT
   exact ⟨false, _, rfl, n6, n8, rfl⟩
  have n9 := z01 b3 d3
  refine W.q2 (hg := gk rfl rfl aa rfl) (.func (.func 9) #[] #[]) (ft (f 16 rfl) rfl) ?_
  obtain ⟨d4, oa, d5⟩ := (aA.atVar (j := 7) rfl)
  refine W.loadA (cs := d4) (gl rfl aa) rfl ag29 sz29 (z0f (ft (f 12 rfl) rfl) oa) (RT.len _ d5) ?_
  obtain ⟨b4, ob, d6⟩ := z03 n9
  refine W.lo (gl rfl aa) rfl (Lo.callvP (ps := []) (ps' := []) rfl rfl (fn := Tryd.f9) (by kernel_rfl) rfl (mc rfl mn) aA (fun ak A => z1f K d4 p.1 d5 A _ ob)) ?_
  rintro wJ wK ⟨wL, b5, d7, qm, rfl⟩
  refine W.q4 (.bool b4) aa rfl (W.p2 (.bool b4) (W.splitAt (t := 172) (b := b4) rfl (fun b6 ab => ?_) (fun b6 ab => ?_)))
  rotate_left
  .have oc := z11 b6 d6
   refine W.q6 rfl ab (W.q6 rfl ab (W.q6 rfl ab (W.q5 (.bool false) ab rfl (W.p1 (.bool false) (.nil ?_)))))
   obtain ⟨wM, od, oe, wN⟩ := b5.frzSl (j := 1) rfl
   obtain ⟨wO, oh, oi, wP⟩ := od.frzSl (j := 1) rfl
   obtain ⟨wQ, oj, ok, wR⟩ := oh.frzSl (j := 1) rfl
   obtain ⟨wS, ol, om, wT⟩ := oj.frzSl (j := 1) rfl
   obtain ⟨wU, on, op, wV⟩ := ol.frzSl (j := 1) rfl
   obtain ⟨wW, oq, os, wX⟩ := on.frzSl (j := 1) rfl
   obtain ⟨wY, ot, ow, wZ⟩ := oq.frzVar (j := 0) rfl
   have ox := zAe d7 (zAe oe (zAe oi (zAe ok (zAe om (zAe op (zAe os ow))))))
   obtain rfl := zAa oc
   exact ⟨false, _, rfl, ot, ox, rfl⟩
  have oy := z01 b6 d6
  refine W.q2 (hg := gk rfl rfl ab rfl) (.func (.func 9) #[] #[]) (ft (f 16 rfl) rfl) ?_
  obtain ⟨d8, oz, d9⟩ := (b5.atVar (j := 0) rfl)
  refine W.loadA (cs := d8) (gl rfl ab) rfl ag29 sz29 (z0f (ft (f 14 rfl) rfl) oz) (RT.len _ d9) ?_
  obtain ⟨w0, oA, ea, eb⟩ := b5.frzSl (j := 1) rfl
  obtain ⟨w1, oB, b7, ec⟩ := oA.frzSl (j := 1) rfl
  obtain ⟨w2, oC, a5, ed⟩ := oB.frzSl (j := 1) rfl
  obtain ⟨w3, oD, a1, ee⟩ := oC.frzSl (j := 1) rfl
  obtain ⟨w4, oE, aK, ef⟩ := oD.frzSl (j := 1) rfl
  obtain ⟨w5, oF, aD, eg⟩ := oE.frzSl (j := 1) rfl
  have hM := zAe a1 (zAe aK aD)
  have hN := zAe a5 (zAe a1 (zAe aK aD))
  have eh := zAe b7 (zAe a5 (zAe a1 (zAe aK aD)))
  have oG := zAe ea (zAe b7 (zAe a5 (zAe a1 (zAe aK aD))))
  have oH := z1p (RT.mono _ oG d9) (RT.mono _ eh eb) (RT.mono _ hN ec) (RT.mono _ hM ed) (RT.mono _ (zAe aK aD) ee) (RT.mono _ aD ef) eg
  have oI := oF.recell (s := z00) (y0 := c.1) (j := 0) rfl (fun cs h => z1p h (RT.mono _ eh eb) (RT.mono _ hN ec) (RT.mono _ hM ed) (RT.mono _ (zAe aK aD) ee) (RT.mono _ aD ef) eg)
  obtain ⟨b8, oJ, oK⟩ := z03 oy
  refine W.lo (gl rfl ab) rfl (Lo.callvP (ps := []) (ps' := []) rfl rfl (fn := Tryd.f9) (by kernel_rfl) rfl (mc rfl mn) oI (fun ak A => z1f K d8 c.1 oH A _ oJ)) ?_
  rintro w6 w7 ⟨w8, oL, oM, qo, rfl⟩
  refine W.q4 (.bool b8) ab rfl (W.p1 (.bool b8) (.nil ?_))
  obtain ⟨w9, oN, oO, xa⟩ := oL.frzVar (j := 0) rfl
  have oP := zAe d7 (zAe ea (zAe b7 (zAe a5 (zAe a1 (zAe aK (zAe aD (zAe oM oO)))))))
  obtain rfl := zAa oK
  exact ⟨b8, _, rfl, oN, oP, rfl⟩
 have eW := z11 bZ dZ
 refine .skip (.seq (.seq ?_))
 obtain ⟨eX, cc, eY⟩ := z03 eW
 refine AW.midT (fun ad aH => ∃ (ae : Bool) (F : GM), ae = eX /\ Ow F aH (eVar aY 29 z18 (c.1, (oV d 0), (oV d 1), (oV d 2), (oV d 3), (oV d 4), (oV d 5)) :: eSl (oV d 0) 9 rS c.1.Nodes :: eSl (oV d 1) 52 z0x c.1.Switches :: eSl (oV d 2) 59 z0i c.1.Branches :: eSl (oV d 3) 67 z6b c.1.Gens :: eSl (oV d 4) 71 z1w c.1.Loads :: eSl (oV d 5) 75 z1o c.1.Stores :: eVar aN 29 z00 p.1 :: eVar br 9 rS aj :: eVar a2 29 z00 al :: L) /\ GM.le dX F /\ ad 182 = .bool ae) ?_ ?_
 .refine .region (W.q2 (.int .i64 k.2) (ft (f 11 rfl) rfl) (W.p3 (.bool (k.2 != 6)) (W.p2 (.bool (k.2 != 6)) (W.splitAt (t := 179) (b := (k.2 != 6)) rfl (fun a6 af => ?_) (fun a6 af => ?_)))))
  .have eZ := z01 a6 cc
   refine W.q6 rfl af (W.q6 rfl af (W.q4 (.bool true) af rfl (.nil ?_)))
   obtain rfl := zAa eZ
   exact ⟨true, _, rfl, aA, (zAf _), rfl⟩
  have e0 := z11 a6 cc
  refine W.q2 (hg := gk rfl rfl af rfl) (.int .i64 k.1) (ft (f 10 rfl) rfl) (W.q3 (hg := gk rfl rfl af rfl) (.bool (k.1 != 0)) rfl rfl (W.q5 (.bool (k.1 != 0)) af rfl (.nil ?_)))
  obtain rfl := zAa e0
  exact ⟨(k.1 != 0), _, rfl, aA, (zAf _), rfl⟩
 rintro pn qp l ⟨e1, qq, rfl, a7, e2, e3⟩
 have ei := zAe bX e2
 have cd := z0k eY
 refine .cond (b := e1) rfl e3 (fun a8 => ?_) (fun a8 => ?_)
 .have e4 := z01 a8 cd
  refine .seq (.region (W.p1 (.bool false) (.nil (.ret ?_))))
  have e5 := (((((((((a7.drop 0).drop 0).drop 0).drop 0).drop 0).drop 0).drop 0).drop 0).drop 0).drop 0
  obtain rfl := zAa e4
  exact z41 kr (v1 := (.bool false)) (by rfl) rt e5 ei rfl
 have e6 := z11 a8 cd
 refine .skip (.seq (.region ?_))
 obtain ⟨ce, e7, cf⟩ := (a7.atVar (j := 9) rfl)
 refine W.loadA (cs := ce) rfl rfl ag29 sz29 (z0f (ft (l 3 rfl) (ft (f 3 rfl) rfl)) e7) (RT.len _ cf) ?_
 obtain ⟨a9, e8, e9⟩ := z03 e6
 refine W.ln (Lo.qF Tryd.f10 (ps := []) (pw := fun w => [_]) (mc rfl mn) a7 (fun ak A => z5v K ce al cf A _ e8)) ?_
 rintro qr qs ⟨aE, qt, fa, fb, po, rfl⟩
 refine W.p1 aE (.nil (.seq (.region (W.p2 aE (W.pv (.func (.func 14) #[] #[(.pointer (some ⟨br, 0, none⟩))]) (z5x (z3l rfl mn) (z3l rfl (mc (ft (l 4 rfl) (ft (f 4 rfl) rfl)) mn))) ?_)))))
 obtain ⟨qu, fc, fd, ba⟩ := fa.frzSl (j := 0) rfl
 obtain ⟨qv, fe, aO, ff⟩ := fc.frzVar (j := 8) rfl
 obtain ⟨C, fg, fh⟩ := z03 e9
 refine W.ln (Lo.cQ Tryd.f13 (mc rfl (mc rfl mn)) fe (fun ak A => z5e K aE a9 (RT.mono _ aO ba) (.func (.func 14) #[] #[(.pointer (some ⟨br, 0, none⟩))]) (fun x => z0g K x aj) ⟨14, _, _, Tryd.f14, rfl, by kernel_rfl, rfl, fun xA H L vs x r hG O hA hF => by obtain rfl := hA; exact z7d K x (.pointer (some ⟨br, 0, none⟩)) aj (At.le ff hG hG) O _ hF⟩ A _ fg)) ?_
 rintro qw qx ⟨fi, aP, bb, pp, rfl⟩
 refine W.p1 (.int .i64 C) (.nil (.seq (.seq ?_)))
 obtain ⟨fj, cg, fk⟩ := z03 fh
 refine AW.midT (fun ad aH => ∃ (ae : Bool) (F : GM), ae = fj /\ Ow F aH (eVar aY 29 z18 (c.1, (oV d 0), (oV d 1), (oV d 2), (oV d 3), (oV d 4), (oV d 5)) :: eSl (oV d 0) 9 rS c.1.Nodes :: eSl (oV d 1) 52 z0x c.1.Switches :: eSl (oV d 2) 59 z0i c.1.Branches :: eSl (oV d 3) 67 z6b c.1.Gens :: eSl (oV d 4) 71 z1w c.1.Loads :: eSl (oV d 5) 75 z1o c.1.Stores :: eVar aN 29 z00 p.1 :: eVar a2 29 z00 al :: L) /\ GM.le fi F /\ ad 205 = .bool ae) ?_ ?_
 .refine .region (W.p2 (.int .i64 C) (W.p3 (.bool (decide (C < 0))) (W.p2 (.bool (decide (C < 0))) (W.splitAt (t := 190) (b := decide (C < 0)) rfl (fun bc ag => ?_) (fun bc ag => ?_)))))
  .have fl := z01 bc cg
   refine W.q6 rfl ag (W.q6 rfl ag (W.q4 (.bool true) ag rfl (W.p2 (.bool true) (W.q6 rfl rfl (W.q6 rfl rfl (W.q6 rfl rfl ?_))))))
   refine W.q6 rfl rfl (W.q6 rfl rfl (W.q6 rfl rfl (W.q6 rfl rfl (W.q6 rfl rfl (W.q6 rfl rfl (W.q6 rfl rfl ?_))))))
   refine W.q4 (.bool true) rfl rfl (.nil ?_)
   obtain rfl := zAa fl
   exact ⟨true, _, rfl, aP, (zAf _), rfl⟩
  have ch := z11 bc cg
  refine W.q2 (hg := gk rfl rfl ag rfl) (.int .i64 p.2) (ft (l 13 rfl) (ft (f 13 rfl) rfl)) (W.q3 (hg := gk rfl rfl ag rfl) (.bool (p.2 != 0)) rfl rfl (W.q5 (.bool (p.2 != 0)) ag rfl (W.p2 (.bool (p.2 != 0)) (W.splitAt (t := 194) (b := (p.2 != 0)) rfl (fun bd i => ?_) (fun bd i => ?_)))))
  .have fm := z01 bd ch
   refine W.q6 rfl i (W.q6 rfl i (W.q6 rfl i (W.q6 rfl i (W.q6 rfl i (W.q6 rfl i (W.q6 rfl i ?_))))))
   refine W.q6 rfl i (W.q6 rfl i (W.q6 rfl i (W.q4 (.bool true) i rfl (.nil ?_))))
   obtain rfl := zAa fm
   exact ⟨true, _, rfl, aP, (zAf _), rfl⟩
  have fo := z11 bd ch
  obtain ⟨ci, fp, cj⟩ := (aP.atVar (j := 7) rfl)
  refine W.loadA (cs := ci) (gl rfl i) rfl ag29 sz29 (z0f (ft (l 12 rfl) (ft (f 12 rfl) rfl)) fp) (RT.len _ cj) ?_
  obtain ⟨fq, fr, fs⟩ := z03 fo
  refine W.lo (gl rfl i) rfl (Lo.qF Tryd.f10 (ps := []) (pw := fun w => [_]) (mc rfl mn) aP (fun ak A => z5v K ci p.1 cj A _ fr)) ?_
  rintro qy qz ⟨fu, qA, fv, ck, pq, rfl⟩
  refine W.q2 (hg := gk rfl rfl i rfl) aE rfl ?_
  obtain ⟨fw, fx, fy⟩ := z03 fs
  refine W.lo (gl rfl i) rfl (Lo.qF Tryd.f20 (ps := []) (pw := fun w => [_]) (mc rfl mn) fv (fun ak A => z3s K aE a9 (RT.mono _ (zAe aO (zAe bb ck)) ba) A _ fx)) ?_
  rintro qB qC ⟨fz, qD, fA, fB, pr, rfl⟩
  refine W.q2 (hg := gk rfl rfl i rfl) (.int .i64 C) rfl (W.q2 (hg := gk rfl rfl i rfl) (.int .i64 C) rfl (W.q3 (hg := gk rfl rfl i rfl) (.int .i64 (z0u .i64 (C + 1))) rfl rfl ?_))
  obtain ⟨fC, fD, fE⟩ := z03 fy
  refine W.lo (gl rfl i) rfl (Lo.qF Tryd.f19 (ps := [_]) (pw := fun w => [_]) (mc rfl (mc rfl (mc rfl mn))) fA (fun ak A => z5s K fz fw C (z0u .i64 (C + 1)) A _ fD)) ?_
  rintro qE qG ⟨fF, qH, fG, fH, pt, rfl⟩
  obtain ⟨qI, fI, fJ, fK⟩ := fG.frzSl (j := 1) rfl
  obtain ⟨qJ, fL, cl, fM⟩ := fI.frzSl (j := 0) rfl
  obtain ⟨aQ, fN, fO⟩ := z03 fE
  refine W.lo (gl rfl i) rfl (Lo.cQ Tryd.f18 (mc rfl (mc rfl mn)) fL (fun ak A => z3t K fu fq (RT.mono _ cl fK) fF fC fM A _ fN)) ?_
  rintro qK qL ⟨qM, fP, fQ, pu, rfl⟩
  have oQ := zAe ck (zAe fB (zAe fH (zAe fJ (zAe cl fQ))))
  refine W.pure (v := (.bool (!aQ))) (gl rfl i) rfl (z26 (a := aQ) ov) (W.q5 (.bool (!aQ)) i rfl (.nil ?_))
  obtain rfl := zAa fO
  exact ⟨(!aQ), _, rfl, fP, oQ, rfl⟩
 rintro px qN u ⟨fR, cm, rfl, z, cn, fT⟩
 have b9 := zAe ei (zAe fb (zAe fd (zAe aO (zAe bb cn))))
 have co := z0k fk
 refine .cond (b := fR) rfl fT (fun be => ?_) (fun be => ?_)
 .have fU := z01 be co
  refine .seq (.region (W.p1 (.bool false) (.nil (.ret ?_))))
  have fV := ((((((((z.drop 0).drop 0).drop 0).drop 0).drop 0).drop 0).drop 0).drop 0).drop 0
  obtain rfl := zAa fU
  exact z41 kr (v1 := (.bool false)) (by rfl) rt fV b9 rfl
 have fW := z11 be co
 refine .skip (.seq (.seq (.region (W.q2 (.string e.1) (ft (u 18 rfl) (ft (l 18 rfl) (ft (f 18 rfl) rfl))) (W.pv (.bool (!(sEq e.1 (⟨#[115, 119, 105, 116, 99, 104]⟩ : zAd)))) (zg0 ov ov) ?_)))))
 obtain ⟨fX, fY, cp⟩ := zep fW
 refine .nil (.cond (b := fX) rfl (congrArg (Value.bool) fY) (fun bf => ?_) (fun bf => ?_))
 .have fZ := z01 bf cp
  refine .seq ?_
  obtain ⟨f0, cq, f1⟩ := z03 fZ
  refine AW.midT (fun ad aH => ∃ (ae : Bool) (F : GM), ae = f0 /\ Ow F aH (eVar aN 29 z00 p.1 :: eVar a2 29 z00 al :: L) /\ GM.le cm F /\ ad 6 = .bool ae) ?_ ?_
  rotate_left
  .rintro py qO pz ⟨f2, qP, rfl, ga, gb, gc⟩
   have oR := zAe b9 gb
   have gd := z0k f1
   refine .ret ?_
   have ge := (ga.drop 0).drop 0
   obtain rfl := zAa gd
   exact z41 kr (v1 := (.bool f2)) (by rfl) (zb0 (by rfl) (by exact gc)) ge oR rfl
  refine .region (W.q2 (.int .i64 c.2) (ft (u 15 rfl) (ft (l 15 rfl) (ft (f 15 rfl) rfl))) (W.p3 (.bool (c.2 == 1)) (W.p2 (.bool (c.2 == 1)) (W.splitAt (t := 210) (b := (c.2 == 1)) rfl (fun bg B => ?_) (fun bg B => ?_)))))
  rotate_left
  .have gf := z11 bg cq
   refine W.q6 rfl B (W.q6 rfl B (W.q6 rfl B (W.q5 (.bool false) B rfl (W.p1 (.bool false) (.nil ?_)))))
   obtain ⟨qQ, gg, gh, qR⟩ := z.frzSl (j := 1) rfl
   obtain ⟨qT, gi, gj, qU⟩ := gg.frzSl (j := 1) rfl
   obtain ⟨qV, gm, gn, qW⟩ := gi.frzSl (j := 1) rfl
   obtain ⟨qX, go, gp, qY⟩ := gm.frzSl (j := 1) rfl
   obtain ⟨qZ, gq, gr, q0⟩ := go.frzSl (j := 1) rfl
   obtain ⟨q1, gs, gt, q7⟩ := gq.frzSl (j := 1) rfl
   obtain ⟨q8, gu, gv, q9⟩ := gs.frzVar (j := 0) rfl
   have oS := zAe gh (zAe gj (zAe gn (zAe gp (zAe gr (zAe gt gv)))))
   obtain rfl := zAa gf
   exact ⟨false, _, rfl, gu, oS, rfl⟩
  have gw := z01 bg cq
  refine W.q2 (hg := gk rfl rfl B rfl) (.func (.func 9) #[] #[]) (ft (u 16 rfl) (ft (l 16 rfl) (ft (f 16 rfl) rfl))) ?_
  obtain ⟨cr, gx, ct⟩ := (z.atVar (j := 0) rfl)
  refine W.loadA (cs := cr) (gl rfl B) rfl ag29 sz29 (z0f (ft (u 14 rfl) (ft (l 14 rfl) (ft (f 14 rfl) rfl))) gx) (RT.len _ ct) ?_
  obtain ⟨ra, gy, gz, cu⟩ := z.frzSl (j := 1) rfl
  obtain ⟨rb, gA, cv, cw⟩ := gy.frzSl (j := 1) rfl
  obtain ⟨rc, gB, bh, cx⟩ := gA.frzSl (j := 1) rfl
  obtain ⟨rd, gC, aR, cy⟩ := gB.frzSl (j := 1) rfl
  obtain ⟨re, gD, aF, cz⟩ := gC.frzSl (j := 1) rfl
  obtain ⟨rf, gE, ah, cA⟩ := gD.frzSl (j := 1) rfl
  have hO := zAe aR (zAe aF ah)
  have hP := zAe bh (zAe aR (zAe aF ah))
  have ej := zAe cv (zAe bh (zAe aR (zAe aF ah)))
  have ek := zAe gz (zAe cv (zAe bh (zAe aR (zAe aF ah))))
  have gF := z1p (RT.mono _ ek ct) (RT.mono _ ej cu) (RT.mono _ hP cw) (RT.mono _ hO cx) (RT.mono _ (zAe aF ah) cy) (RT.mono _ ah cz) cA
  have gG := gE.recell (s := z00) (y0 := c.1) (j := 0) rfl (fun cs h => z1p h (RT.mono _ ej cu) (RT.mono _ hP cw) (RT.mono _ hO cx) (RT.mono _ (zAe aF ah) cy) (RT.mono _ ah cz) cA)
  obtain ⟨bi, gH, gI⟩ := z03 gw
  refine W.lo (gl rfl B) rfl (Lo.callvP (ps := []) (ps' := []) rfl rfl (fn := Tryd.f9) (by kernel_rfl) rfl (mc rfl mn) gG (fun ak A => z1f K cr c.1 gF A _ gH)) ?_
  rintro rg rh ⟨ri, gJ, gK, pA, rfl⟩
  refine W.q4 (.bool bi) B rfl (W.p1 (.bool bi) (.nil ?_))
  obtain ⟨rj, gL, gM, rk⟩ := gJ.frzVar (j := 0) rfl
  have oT := zAe ek (zAe gK gM)
  obtain rfl := zAa gI
  exact ⟨bi, _, rfl, gL, oT, rfl⟩
 have gN := z11 bf cp
 refine .skip (.seq (.seq ?_))
 obtain ⟨gO, cB, gP⟩ := z03 gN
 refine AW.midT (fun ad aH => ∃ (ae : Bool) (F : GM), ae = gO /\ Ow F aH (eVar aY 29 z18 (c.1, (oV d 0), (oV d 1), (oV d 2), (oV d 3), (oV d 4), (oV d 5)) :: eSl (oV d 0) 9 rS c.1.Nodes :: eSl (oV d 1) 52 z0x c.1.Switches :: eSl (oV d 2) 59 z0i c.1.Branches :: eSl (oV d 3) 67 z6b c.1.Gens :: eSl (oV d 4) 71 z1w c.1.Loads :: eSl (oV d 5) 75 z1o c.1.Stores :: eVar aN 29 z00 p.1 :: eVar a2 29 z00 al :: L) /\ GM.le cm F /\ ad 235 = .bool ae) ?_ ?_
 .refine .region (W.q2 (.int .i64 c.2) (ft (u 15 rfl) (ft (l 15 rfl) (ft (f 15 rfl) rfl))) (W.p3 (.bool (c.2 != 0)) (W.p2 (.bool (c.2 != 0)) (W.splitAt (t := 217) (b := (c.2 != 0)) rfl (fun bj q => ?_) (fun bj q => ?_)))))
  .have gQ := z01 bj cB
   refine W.q6 rfl q (W.q6 rfl q (W.q6 rfl q (W.q6 rfl q (W.q6 rfl q (W.q6 rfl q (W.q6 rfl q ?_))))))
   refine W.q4 (.bool true) q rfl (W.p2 (.bool true) (W.q6 rfl rfl (W.q6 rfl rfl (W.q6 rfl rfl (W.q6 rfl rfl (W.q6 rfl rfl ?_))))))
   refine W.q6 rfl rfl (W.q6 rfl rfl (W.q6 rfl rfl (W.q4 (.bool true) rfl rfl (.nil ?_))))
   obtain rfl := zAa gQ
   exact ⟨true, _, rfl, z, (zAf _), rfl⟩
  have gR := z11 bj cB
  refine W.pure (v := (padd (.pointer (some ⟨aY, 0, none⟩)) 1)) (gl rfl q) rfl (z0a z86 (ou (ft (u 14 rfl) (ft (l 14 rfl) (ft (f 14 rfl) rfl)))) (z.atVar (j := 0) rfl)) (W.load1 (v := (oV d 1)) (r := []) (gl rfl q) rfl ag23 (z0f rfl (At.raw (At.proj (z.atVar (j := 0) rfl) z30))) (W.pure (v := (.int .i64 (c.1.Switches.length : Int))) (gl rfl q) rfl (z1j ov (z.slLen (j := 2) rfl) (z02 el23)) (W.pure (v := (padd (.pointer (some ⟨a2, 0, none⟩)) 1)) (gl rfl q) rfl (z0a z86 (ou (ft (u 3 rfl) (ft (l 3 rfl) (ft (f 3 rfl) rfl)))) (z.atVar (j := 8) rfl)) ?_)))
  obtain ⟨gS, gT, gU⟩ := At.sl (At.proj (z.atVar (j := 8) rfl) z1h)
  refine W.load1 (v := gS) (r := []) (gl rfl q) rfl ag23 (z0f rfl gT) (W.pure (v := (.int .i64 (al.Switches.length : Int))) (gl rfl q) rfl (z1j ov (z17 gU) (z02 el23)) (W.q3 (hg := gk rfl rfl q rfl) (.bool ((c.1.Switches.length : Int) != (al.Switches.length : Int))) rfl rfl ?_))
  obtain ⟨bk, gV, cC⟩ := zep gR
  refine W.q5 (.bool bk) q (congrArg (Value.bool) gV) (W.p2 (.bool bk) (W.splitAt (t := 226) (b := bk) rfl (fun bl m => ?_) (fun bl m => ?_)))
  .have gW := z01 bl cC
   refine W.q6 rfl m (W.q6 rfl m (W.q6 rfl m (W.q6 rfl m (W.q6 rfl m (W.q6 rfl m (W.q6 rfl m ?_))))))
   refine W.q6 rfl m (W.q4 (.bool true) m rfl (.nil ?_))
   obtain rfl := zAa gW
   exact ⟨true, _, rfl, z, (zAf _), rfl⟩
  have gX := z11 bl cC
  refine W.pure (v := (padd (.pointer (some ⟨aY, 0, none⟩)) 1)) (gl rfl m) rfl (z0a z86 (ou (ft (u 14 rfl) (ft (l 14 rfl) (ft (f 14 rfl) rfl)))) (z.atVar (j := 0) rfl)) (W.load1 (v := (oV d 1)) (r := []) (gl rfl m) rfl ag23 (z0f rfl (At.raw (At.proj (z.atVar (j := 0) rfl) z30))) (W.q2 (hg := gk rfl rfl m rfl) (.int .i64 e.2) (ft (u 19 rfl) (ft (l 19 rfl) (ft (f 19 rfl) rfl))) ?_))
  obtain ⟨aS, gY, gZ⟩ := z03 gX
  have aT := z1v gY
  refine W.pure (v := (z5q (oV d 1) (e.2.toNat * 5))) (gl rfl m) rfl (z6h el23 sz52 ov ov (z.slLen (j := 2) rfl) aT.1 aT.2.1) (W.pure (v := (padd (z5q (oV d 1) (e.2.toNat * 5)) 4)) (gl rfl m) rfl (z0a zg6 ov (z.atSl (j := 2) rfl aT.2.2)) (W.load1 (v := (.bool aS.Open)) (r := []) (gl rfl m) rfl ag4 (z0f rfl (At.bool (At.proj (z.atSl (j := 2) rfl aT.2.2) z7m))) (W.q2 (hg := gk rfl rfl m rfl) (.bool bq) (ft (u 2 rfl) (ft (l 2 rfl) (ft (f 2 rfl) rfl))) (W.pure (v := (.bool (!(aS.Open == bq)))) (gl rfl m) rfl (ziy ov ov un4) (W.q5 (.bool (!(aS.Open == bq))) m rfl (.nil ?_))))))
  obtain rfl := zAa gZ
  exact ⟨(!(aS.Open == bq)), _, rfl, z, (zAf _), rfl⟩
 rintro pB rl am ⟨g0, rm, rfl, cD, cE, g1⟩
 have el := zAe b9 cE
 have cF := z0k gP
 refine .cond (b := g0) rfl g1 (fun bm => ?_) (fun bm => ?_)
 .have g2 := z01 bm cF
  refine .seq (.region (W.p1 (.bool false) (.nil (.ret ?_))))
  have g3 := ((((((((cD.drop 0).drop 0).drop 0).drop 0).drop 0).drop 0).drop 0).drop 0).drop 0
  obtain rfl := zAa g2
  exact z41 kr (v1 := (.bool false)) (by rfl) rt g3 el rfl
 have g4 := z11 bm cF
 refine .skip (.seq (.draw2 (M := [0, 1, 0, 0, 8, 0, 56, 120, 248, 511, 1023, 2047]) mixed (by kernel_rfl) (by kernel_rfl) fun rn ro g5 rp => ?_))
 have ac := cD.ext g5
 refine D2.pv (padd (.pointer (some ⟨aY, 0, none⟩)) 1) (z0a z86 (ou (ft (am 14 rfl) (ft (u 14 rfl) (ft (l 14 rfl) (ft (f 14 rfl) rfl))))) (ac.atVar (j := 0) rfl)) (D2.l1 (oV d 1) ag23 (z0f rfl (At.raw (At.proj (ac.atVar (j := 0) rfl) z30))) z0d (D2.q2 (.int .i64 e.2) (ft (am 19 rfl) (ft (u 19 rfl) (ft (l 19 rfl) (ft (f 19 rfl) rfl)))) (D2.pv (padd (.pointer (some ⟨a2, 0, none⟩)) 1) (z0a z86 (ou (ft (am 3 rfl) (ft (u 3 rfl) (ft (l 3 rfl) (ft (f 3 rfl) rfl))))) (ac.atVar (j := 8) rfl)) ?_)))
 obtain ⟨bn, g6, bo⟩ := At.sl (At.proj (ac.atVar (j := 8) rfl) z1h)
 refine D2.l1 bn ag23 (z0f rfl g6) z0d (D2.q2 (.int .i64 e.2) (ft (am 19 rfl) (ft (u 19 rfl) (ft (l 19 rfl) (ft (f 19 rfl) rfl)))) ?_)
 obtain ⟨aL, g7, g8⟩ := z03 g4
 have aU := z1v g7
 refine D2.pv (z5q bn (e.2.toNat * 5)) (z6h el23 sz52 ov ov (z17 bo) aU.1 aU.2.1) (D2.pv (padd (z5q bn (e.2.toNat * 5)) 4) (z0a zg6 ov (At.le (z47 bo aU.2.2) (zAf _) ac.fro)) (D2.l1 (.bool aL.Open) ag4 (z0f rfl (At.bool (At.le (At.proj (z47 bo aU.2.2) z7m) (zAf _) ac.fro))) z0d ?_))
 obtain ⟨cG, g9, ha⟩ := z03 g8
 have aV := z1v g9
 refine D2.pv (z5q (oV d 1) (e.2.toNat * 5)) (z6h el23 sz52 ov ov (ac.slLen (j := 2) rfl) aV.1 aV.2.1) (D2.pv (padd (z5q (oV d 1) (e.2.toNat * 5)) 4) (z0a zg6 ov (ac.atSl (j := 2) rfl aV.2.2)) (D2.lo rfl rfl (Lo.storeSl (j := 2) (s := rB) (y0 := aL.Open) (v := (.bool aL.Open)) rfl aV.2.2 (Put.at z9s _ _) rfl sz4 rfl rfl rfl ac) ?_ z0d ?_ ?_))
 .rintro cH cI ⟨aW, bs⟩; exact (faI (faI (faI z0d)))
 .rintro cH cI ⟨aW, bs⟩; exact z0d
 rintro cH cI ⟨aW, bs⟩
 refine .nil (.seq (.region ?_))
 obtain ⟨cJ, hb, cK⟩ := (aW.atVar (j := 0) rfl)
 refine W.loadA (cs := cJ) rfl rfl ag29 sz29 (z0f (ft (am 14 rfl) (ft (u 14 rfl) (ft (l 14 rfl) (ft (f 14 rfl) rfl)))) hb) (RT.len _ cK) ?_
 obtain ⟨rq, hc, bp, cL⟩ := aW.frzSl (j := 1) rfl
 obtain ⟨rr, hd, aX, cM⟩ := hc.frzSl (j := 1) rfl
 obtain ⟨rs, he, aM, cN⟩ := hd.frzSl (j := 1) rfl
 obtain ⟨ru, hf, aG, cO⟩ := he.frzSl (j := 1) rfl
 obtain ⟨rv, hh, ai, cP⟩ := hf.frzSl (j := 1) rfl
 obtain ⟨rx, hi, E, cR⟩ := hh.frzSl (j := 1) rfl
 have hQ := zAe aG (zAe ai E)
 have hR := zAe aM (zAe aG (zAe ai E))
 have em := zAe aX (zAe aM (zAe aG (zAe ai E)))
 have oU := zAe bp (zAe aX (zAe aM (zAe aG (zAe ai E))))
 have hj := z1p (RT.mono _ oU cK) (RT.mono _ em cL) (RT.mono _ hR cM) (RT.mono _ hQ cN) (RT.mono _ (zAe ai E) cO) (RT.mono _ E cP) cR
 have hk := hi.recell (s := z00) (y0 := { c.1 with Switches := (List.set c.1.Switches (e.2.toNat) ({ cG with Open := aL.Open })) }) (j := 0) rfl (fun cs h => z1p h (RT.mono _ em cL) (RT.mono _ hR cM) (RT.mono _ hQ cN) (RT.mono _ (zAe ai E) cO) (RT.mono _ E cP) cR)
 obtain ⟨hl, hm, hn⟩ := z03 ha
 refine W.ln (Lo.qF Tryd.f10 (ps := []) (pw := fun w => [_]) (mc rfl mn) hk (fun ak A => z5v K cJ ({ c.1 with Switches := (List.set c.1.Switches (e.2.toNat) ({ cG with Open := aL.Open })) }) hj A _ hm)) ?_
 rintro ry rz ⟨ho, rA, hp, cS, pC, rfl⟩
 have oW := zAe aO (zAe bb (zAe cn (zAe cE (zAe bp (zAe aX (zAe aM (zAe aG (zAe ai (zAe E cS)))))))))
 refine W.q2 aE (ft (am 20 rfl) (ft (u 20 rfl) rfl)) ?_
 obtain ⟨cT, hq, hr⟩ := z03 hn
 refine W.ln (Lo.callB (j := 0) rfl rfl (fn := Tryd.f18) (by kernel_rfl) rfl (mc rfl (mc rfl mn)) hp (fun F ak hG A hB => z3t K ho hl hB aE a9 (RT.mono _ hG (RT.mono _ oW ba)) A _ hq)) ?_
 rintro rC rD ⟨rE, hs, ht, pD, rfl⟩
 have oX := zAe el (zAe bp (zAe aX (zAe aM (zAe aG (zAe ai (zAe E (zAe cS ht)))))))
 refine W.p1 (.bool cT) (.nil (.ret ?_))
 have hu := (((hs.drop 0).drop 0).drop 0).drop 0
 obtain rfl := zAa hr
 exact z41 kr (v1 := (.bool cT)) (by rfl) rt hu oX rfl
end Go.Am.Tryd
/- Plain law: the program's and the reference's checks of a network, of a name and of a branch are the same. -/
namespace Go.Am.Tryd
open Go Go.Am Go.Proofs
def chP (i : Nat) (c : Int) : Bool := !(!(decide (c >= 65) && decide (c <= 90)) && ((i == 0) || decide (c < 48) || decide (c > 57)))
def za6 (s : zAd) : Bool := !(s.size == 0) && !decide (s.size > 8) && (z1u s).zipIdx.all fun p => chP p.2 p.1
theorem ze0 {α : Type} {p : α -> Bool} {xs : List α} {i : Nat} {x : α} (h : xs[i]? = some x) : (xs.drop i).all p = (p x && (xs.drop (i + 1)).all p) := by
 have hl := (zAi h).1
 rw [List.drop_eq_getElem_cons hl, List.all_cons]
 congr 2
 rw [zAh hl] at h; simpa using h
theorem zlr {α : Type} (p q z u v : Bool) (A B : Option α) : Option.bind (if p = true then some q else some false) (tu1 fun x34 => Option.bind (if (!x34) = true then (if z = true then some true else (if u = true then some true else some v)) else some false) (tu1 fun x59 => if x59 = true then A else B)) = if (!(!(p && q) && (z || u || v))) = true then B else A := by
 cases p <;> cases q <;> cases z <;> cases u <;> cases v <;> rfl
theorem zls {α : Type} (p q u v : Bool) (A B : Option α) : Option.bind (if p = true then (if u = true then some true else some v) else (if q = true then (if u = true then some true else some v) else some false)) (tu1 fun x => if x = true then A else B) = if (!(!(!p && !q) && (u || v))) = true then B else A := by
 cases p <;> cases q <;> cases u <;> cases v <;> rfl
theorem zmj (c : Int) : chP 1 c = !(!(!decide (c < 65) && !decide (c > 90)) && (decide (c < 48) || decide (c > 57))) := by
 unfold chP
 have h1 : decide (c >= 65) = !decide (c < 65) := by by_cases h : c < 65 <;> simp [h] <;> omega
 have h2 : decide (c <= 90) = !decide (c > 90) := by by_cases h : c > 90 <;> simp [h] <;> omega
 rw [h1, h2]; simp
theorem zht (K : Nat) (s : zAd) (hs : s.size <= 1048576) : ∀ d k (i : Nat), (z1u s).length - i = d -> d < k ->
  z2l K s k (i : Int) = some (if ((z1u s).zipIdx.drop i).all (fun p => chP p.2 p.1) then .inr () else .inl false) := by
 have hn := z5i s
 intro d
 induction d with
 | zero =>
  intro k i hd hk
  obtain ⟨k, rfl⟩ : ∃ m, k = m + 1 := ⟨k - 1, by omega⟩
  rw [z2l, z2j (by omega), List.drop_eq_nil_of_le (by simp; omega)]
  simp
 | succ d ih =>
  intro k i hd hk
  obtain ⟨k, rfl⟩ : ∃ m, k = m + 1 := ⟨k - 1, by omega⟩
  have hl : i < (z1u s).length := by omega
  have hx : (z1u s)[i]? = some (z1u s)[i] := zAh hl
  have hz : (z1u s).zipIdx[i]? = some ((z1u s)[i], i) := by simp [hl]
  rw [z2l, z48 hl, ze0 hz]
  simp only [if_true, z24 hx, Option.bind_some]
  generalize (z1u s)[i] = c
  have h1 := ih k (i + 1) (by omega) (by omega)
  rw [<- kw1 hl (by omega)] at h1
  have h0 : ((i : Int) == 0) = (i == 0) := by cases i <;> simp <;> omega
  rw [zlr, h0, h1]
  show (if chP i c = true then _ else _) = _
  cases chP i c <;> simp only [Bool.true_and, Bool.false_and, if_true, Bool.false_eq_true, if_false]
theorem zhu (K : Nat) (s : zAd) (hs : s.size <= 1048576) (hK : s.size < K) : z4z K s = some (za6 s) := by
 have h := zht K s hs (z1u s).length K 0 (by omega) (by rw [z5i]; exact hK)
 unfold z4z
 rw [show ((0 : Nat) : Int) = 0 from rfl] at h
 rw [h]
 have he : sEq s ⟨#[]⟩ = (s.size == 0) := by
  cases hq : sEq s ⟨#[]⟩ with
  | true => rw [z6a] at hq; subst hq; rfl
  | false =>
   have : s.size ≠ 0 := fun h => by
    have : s = ⟨#[]⟩ := by
     cases s with
     | mk d => congr 1; exact Array.eq_empty_of_size_eq_zero h
    rw [z6a.2 this] at hq; cases hq
   simp [this]
 unfold za6
 rw [List.drop_zero]
 cases hall : (z1u s).zipIdx.all fun p => chP p.2 p.1 with
 | false => simp [z66, tu1, hall]
 | true =>
  simp only [z66, tu0, tu1, hall, he, Option.bind_some, if_true]
  by_cases h0 : s.size = 0
  ·simp [h0]
  ·by_cases h8 : s.size <= 8
   ·have : (s.size : Int) <= 8 := by omega
    have h9 : ¬ s.size > 8 := by omega
    simp [h0, this, h9]
   ·have : ¬ (s.size : Int) <= 8 := by omega
    have h9 : s.size > 8 := by omega
    simp [h0, this, h9]
theorem zev (K : Nat) (s : zAd) (hs : s.size <= 1048576) : ∀ d k (i : Nat), (z1u s).length - i = d -> d < k ->
  z4k K s k (i : Int) = some (if ((z1u s).drop i).all (fun c => chP 1 c) then .inr () else .inl false) := by
 have hn := z5i s
 intro d
 induction d with
 | zero =>
  intro k i hd hk
  obtain ⟨k, rfl⟩ : ∃ m, k = m + 1 := ⟨k - 1, by omega⟩
  rw [z4k, <- hn, z2j (by omega), List.drop_eq_nil_of_le (by omega)]
  simp
 | succ d ih =>
  intro k i hd hk
  obtain ⟨k, rfl⟩ : ∃ m, k = m + 1 := ⟨k - 1, by omega⟩
  have hl : i < (z1u s).length := by omega
  have hx : (z1u s)[i]? = some (z1u s)[i] := zAh hl
  rw [z4k, <- hn, z48 hl, ze0 hx]
  simp only [if_true, zi7, z24 hx, Option.bind_some]
  generalize (z1u s)[i] = c
  have h1 := ih k (i + 1) (by omega) (by omega)
  rw [<- kw1 hl (by omega)] at h1
  rw [zls, h1, <- zmj]
  cases chP 1 c <;> simp only [Bool.true_and, Bool.false_and, if_true, Bool.false_eq_true, if_false]
theorem zks (xs : List Int) : ∀ k, 0 < k -> (xs.zipIdx k).all (fun p => chP p.2 p.1) = xs.all (fun c => chP 1 c) := by
 induction xs with
 | nil => intro k _; rfl
 | cons c xs ih =>
  intro k hk
  rw [List.zipIdx_cons, List.all_cons, List.all_cons, ih (k + 1) (by omega)]
  have : chP k c = chP 1 c := by
   unfold chP
   have : (k == 0) = false := by simp; omega
   simp [this]
  rw [this]
theorem zgi (K : Nat) (s : zAd) (hs : s.size <= 1048576) (hK : s.size < K) : z7o K s = some (za6 s) := by
 have h := zev K s hs (z1u s).length K 0 (by omega) (by rw [z5i]; exact hK)
 rw [show ((0 : Nat) : Int) = 0 from rfl, List.drop_zero] at h
 have hn := z5i s
 unfold z7o za6
 rw [h]
 by_cases h0 : s.size = 0
 ·simp [h0, tu1]
 ·have h0' : ¬ ((s.size : Int) = 0) := by omega
  by_cases h8 : s.size > 8
  ·have : (s.size : Int) > 8 := by omega
   simp [h0, h8, this, tu1]
  ·have h8' : ¬ (s.size : Int) > 8 := by omega
   cases hb : z1u s with
   | nil => rw [hb] at hn; simp at hn; omega
   | cons c xs =>
    have hi : bidx s 0 = some c := by rw [zi7, hb]; rfl
    rw [List.zipIdx_cons, List.all_cons, List.all_cons, zks xs (0 + 1) (by omega)]
    by_cases a : c < 65
    ·have a' : ¬ c >= 65 := by omega
     simp [h0, h0', h8, h8', tu1, hi, a, a', chP]
    ·have a' : c >= 65 := by omega
     by_cases b : c > 90
     ·have b' : ¬ c <= 90 := by omega
      simp [h0, h0', h8, h8', tu1, hi, a, a', b, b', chP]
     ·have b' : c <= 90 := by omega
      cases hall : xs.all fun c => chP 1 c <;> simp [h0, h0', h8, h8', tu1, tu0, hi, a, a', b, b', chP, z66, hall]
def hasS (l : List zAd) (s : zAd) : Bool := l.any fun x => sEq s x
theorem zgj (K : Nat) (l : List zAd) (s : zAd) (hl : l.length <= 1048576) : ∀ d k (i : Nat), l.length - i = d -> d < k ->
  ∃ j : Nat, z08 K l s k (i : Int) = some (if (l.drop i).any (fun x => sEq s x) then .inl (j : Int) else .inr ()) := by
 intro d
 induction d with
 | zero =>
  intro k i hd hk
  obtain ⟨k, rfl⟩ : ∃ m, k = m + 1 := ⟨k - 1, by omega⟩
  exact ⟨0, by rw [z08, z2j (by omega), List.drop_eq_nil_of_le (by omega)]; simp⟩
 | succ d ih =>
  intro k i hd hk
  obtain ⟨k, rfl⟩ : ∃ m, k = m + 1 := ⟨k - 1, by omega⟩
  have hi : i < l.length := by omega
  have hx : l[i]? = some l[i] := zAh hi
  obtain ⟨j, h1⟩ := ih k (i + 1) (by omega) (by omega)
  rw [<- kw1 hi (by omega)] at h1
  rw [z08, z48 hi, List.drop_eq_getElem_cons hi, List.any_cons]
  simp only [if_true, z24 hx, Option.bind_some]
  cases hq : sEq s l[i] with
  | true => exact ⟨i, by simp⟩
  | false => exact ⟨j, by simpa using h1⟩
theorem z9v (K : Nat) (l : List zAd) (s : zAd) (hl : l.length <= 1048576) (hK : l.length < K) : z10 K l s = some (hasS l s) := by
 obtain ⟨j, h⟩ := zgj K l s hl l.length K 0 (by omega) hK
 rw [show ((0 : Nat) : Int) = 0 from rfl, List.drop_zero] at h
 unfold z10 z0l hasS
 rw [h]
 cases hq : l.any fun x => sEq s x with
 | true => simp [z66, tu1]
 | false => simp [z66, tu0]
theorem zgk (K : Nat) (l : List zAd) (s : zAd) (hl : l.length <= 1048576) : ∀ d k (i : Nat), l.length - i = d -> d < k ->
  ∃ j : Nat, z2y K l s k (i : Int) = some (if (l.drop i).any (fun x => sEq s x) then .inl (j : Int) else .inr ()) := by
 intro d
 induction d with
 | zero =>
  intro k i hd hk
  obtain ⟨k, rfl⟩ : ∃ m, k = m + 1 := ⟨k - 1, by omega⟩
  exact ⟨0, by rw [z2y, z2j (by omega), List.drop_eq_nil_of_le (by omega)]; simp⟩
 | succ d ih =>
  intro k i hd hk
  obtain ⟨k, rfl⟩ : ∃ m, k = m + 1 := ⟨k - 1, by omega⟩
  have hi : i < l.length := by omega
  have hx : l[i]? = some l[i] := zAh hi
  obtain ⟨j, h1⟩ := ih k (i + 1) (by omega) (by omega)
  rw [<- kw1 hi (by omega)] at h1
  rw [z2y, z48 hi, List.drop_eq_getElem_cons hi, List.any_cons]
  simp only [if_true, z24 hx, Option.bind_some]
  rw [zga l[i] s]
  cases hq : sEq s l[i] with
  | true => exact ⟨i, by simp⟩
  | false => exact ⟨j, by simpa using h1⟩
theorem zi9 (K : Nat) (l : List zAd) (s : zAd) (hl : l.length <= 1048576) (hK : l.length < K) : zbe K l s = some (hasS l s) := by
 obtain ⟨j, h⟩ := zgk K l s hl l.length K 0 (by omega) hK
 rw [show ((0 : Nat) : Int) = 0 from rfl, List.drop_zero] at h
 unfold zbe z7c hasS
 rw [h]
 cases hq : l.any fun x => sEq s x with
 | true => simp [z66, tu1]
 | false => simp [z66, tu0]
end Go.Am.Tryd
/- Plain law: the program's and the reference's checks of a network are the same. -/
namespace Go.Am.Tryd
open Go Go.Am Go.Proofs
def addS (met : List zAd) (s : zAd) : Int × List zAd := if !(za6 s) then (5, met) else if hasS met s then (7, met) else (0, met ++ [s])
def zkt (n : Network) (l : List zAd) : Int := if l.all (hasS n.Nodes) then 0 else 6
def devS (n : Network) (met : List zAd) (s : zAd) (l : List zAd) : Int × List zAd := if (addS met s).1 != 0 then addS met s else (zkt n l, (addS met s).2)
def inS (a b c : Int) : Bool := decide (a >= b) && decide (a <= c)
def brS (b : Branch) : Bool := inS b.X 1 10000 && inS b.Tap 500 1500 && inS b.Shift (-1000) 1000 && inS b.Limit 0 100000 && inS b.Short b.Limit 100000 && inS b.Hold 0 200000
def chkN (x : zAd) (met : List zAd) : Int ⊕ List zAd := if (addS met x).1 != 0 then .inl (addS met x).1 else .inr (addS met x).2
def apS (x : Item) : Bool := x.apart && (match x.nodes with | a :: b :: _ => sEq a b | _ => false)
def chkI (n : Network) (x : Item) (met : List zAd) : Int ⊕ List zAd :=
 if (devS n met x.name x.nodes).1 != 0 then .inl (devS n met x.name x.nodes).1 else
 if apS x then .inl 3 else if x.bad then .inl 4 else .inr (devS n met x.name x.nodes).2
def iSw (s : Switch) : Item := ⟨s.Name, [s.A, s.B], true, false⟩
def iBr (b : Branch) : Item := ⟨b.Name, [b.From, b.To], true, !brS b⟩
def iGe (g : Gen) : Item := ⟨g.Name, [g.Node], false, !(inS g.Least 0 100000 && inS g.Most g.Least 100000 && inS g.Ramp 0 100000)⟩
def iLo (d : Load_) : Item := ⟨d.Name, [d.Node], false, !inS d.Demand 0 100000⟩
def iSt (s : Store) : Item := ⟨s.Name, [s.Node], false, !(inS s.Charge 0 100000 && inS s.Discharge 0 100000 && inS s.Capacity 0 100000)⟩
def z5m (n : Network) : List Item := n.Switches.map iSw ++ n.Branches.map iBr ++ n.Gens.map iGe ++ n.Loads.map iLo ++ n.Stores.map iSt
def bigS (n : Network) : Bool := decide (n.Nodes.length > 24) || decide (n.Switches.length > 32) || decide (n.Branches.length > 24) || decide (n.Gens.length > 10) || decide (n.Loads.length > 12) || decide (n.Stores.length > 4)
def netS (n : Network) : Int := if bigS n then 2 else Sum.elim id (fun met => Sum.elim id (fun _ => 0) (runS (chkI n) (z5m n) met)) (runS chkN n.Nodes [])
theorem zby (met : List zAd) (s : zAd) : (addS met s).2.length <= met.length + 1 := by
 unfold addS
 split
 ·simp
 ·split <;> simp
theorem z8v (n : Network) (met : List zAd) (s : zAd) (l : List zAd) : (devS n met s l).2.length <= met.length + 1 := by
 unfold devS
 split <;> exact zby met s
structure Fit (K : Nat) (n : Network) : Prop where
 nodes : ∀ s ∈ n.Nodes, s.size < K
 sw : ∀ x ∈ n.Switches, x.Name.size < K
 br : ∀ x ∈ n.Branches, x.Name.size < K
 ge : ∀ x ∈ n.Gens, x.Name.size < K
 lo : ∀ x ∈ n.Loads, x.Name.size < K
 st : ∀ x ∈ n.Stores, x.Name.size < K
 many : 200 < K
variable {K : Nat} {n : Network}
theorem zgl (hK : 200 < K) (p : Netmodel_names) (s : zAd) (hs : s.size < K) (hs' : s.size <= 1048576) (hp : p.l.length <= 150) : z2m K p s = some ((addS p.l s).1, ⟨(addS p.l s).2⟩) := by
 unfold z2m addS
 rw [zhu K s hs' hs]
 simp only [Option.bind_some]
 cases za6 s with
 | false => simp
 | true =>
  rw [z9v K p.l s (by omega) (by omega)]
  cases hasS p.l s with
  | true => simp
  | false =>
   have : p.l.length + 1 <= 16777216 := by omega
   simp [this]
theorem zgm (hK : 200 < K) (p : List zAd) (s : zAd) (hs : s.size < K) (hs' : s.size <= 1048576) (hp : p.length <= 150) : z4r K s p = some (addS p s) := by
 unfold z4r addS
 rw [zgi K s hs' hs]
 simp only [Option.bind_some]
 cases za6 s with
 | false => simp
 | true =>
  rw [zi9 K p s (by omega) (by omega)]
  cases hasS p s with
  | true => simp
  | false =>
   have : p.length + 1 <= 16777216 := by omega
   simp [this]
theorem zdb {E : Type} (p : zAd -> Bool) (e : E) : ∀ (l : List zAd), runS (fun x (_ : Unit) => if p x then .inr () else .inl e) l () = if l.all p then .inr () else .inl e
 | [] => rfl
 | x :: l => by
  simp only [runS, List.all_cons]
  by_cases hp : p x = true
  ·simp only [hp, if_true, Bool.true_and]; exact zdb p e l
  ·simp [hp]
theorem zhv (l : List zAd) (hn : n.Nodes.length <= 1048576) (hn' : n.Nodes.length < K) (hl : l.length < K) (hl' : l.length <= 1048576) : z50 K n l = some (zkt n l) := by
 have h : z1i K n l K 0 = _ := z80 l (fun k (_ : Unit) i => z1i K n l k i) (fun x (_ : Unit) => if hasS n.Nodes x then .inr () else .inl (6 : Int)) (fun _ _ => True)
  (fun k s i x hx _ => by
   have hi := (zAi hx).1
   show z1i K n l (k + 1) i = _
   rw [z1i, z48 hi]
   simp only [if_true, z24 hx, Option.bind_some, z9v K n.Nodes x hn hn', kw1 hi (by omega)]
   cases hasS n.Nodes x <;> simp)
  (fun _ _ _ _ _ _ _ => trivial)
  (fun k s i hi => by
   show z1i K n l (k + 1) i = _
   rw [z1i, z2j hi]; simp) K () hl trivial
 unfold z50 zkt
 rw [h, zdb]
 cases l.all (hasS n.Nodes) <;> simp [z66, tu0, tu1]
theorem zjm (x : Item) (hn : n.Nodes.length <= 1048576) (hn' : n.Nodes.length < K) (hl : x.nodes.length < K) (hl' : x.nodes.length <= 1048576) : z20 K n x K 0 = some (if x.nodes.all (hasS n.Nodes) then .inr () else .inl 6) := by
 have h : z20 K n x K 0 = _ := z80 x.nodes (fun k (_ : Unit) i => z20 K n x k i) (fun x (_ : Unit) => if hasS n.Nodes x then .inr () else .inl (6 : Int)) (fun _ _ => True)
  (fun k s i y hx _ => by
   have hi := (zAi hx).1
   show z20 K n x (k + 1) i = _
   rw [z20, z48 hi]
   simp only [if_true, z24 hx, Option.bind_some, zi9 K n.Nodes y hn hn', kw1 hi (by omega)]
   cases hasS n.Nodes y <;> simp)
  (fun _ _ _ _ _ _ _ => trivial)
  (fun k s i hi => by
   show z20 K n x (k + 1) i = _
   rw [z20, z2j hi]; simp) K () hl trivial
 rw [h, zdb]
theorem zar (hK : 200 < K) (hn : n.Nodes.length <= 24) (p : Netmodel_names) (s : zAd) (l : List zAd) (hs : s.size < K) (hs' : s.size <= 1048576) (hp : p.l.length <= 150) (hl : l.length <= 2) :
  z22 K n p s l = some ((devS n p.l s l).1, ⟨(devS n p.l s l).2⟩) := by
 unfold z22 devS
 rw [zgl hK _ s hs hs' hp]
 simp only [Option.bind_some]
 cases h : (addS p.l s).1 != 0 with
 | true => simp [h]
 | false =>
  rw [zhv l (by omega) (by omega) (by omega) (by omega)]
  simp [h]
theorem z84 (K : Nat) (a b c : Int) : z0h K a b c = some (inS a b c) := by
 unfold z0h inS
 cases decide (a >= b) <;> simp [tu1]
theorem zew (K : Nat) (a b c : Int) : z7p K a b c = some (inS a b c) := by
 have h1 : decide (a >= b) = !decide (a < b) := by by_cases h : a < b <;> simp [h] <;> omega
 have h2 : decide (a <= c) = !decide (a > c) := by by_cases h : a > c <;> simp [h] <;> omega
 unfold z7p inS
 rw [h1, h2]
 cases decide (a < b) <;> simp [tu1]
theorem zex (K : Nat) (b : Branch) : z3w K b = some (if brS b then 0 else 4) := by
 unfold z3w brS
 simp only [z84, Option.bind_some]
 cases inS b.X 1 10000 <;> cases inS b.Tap 500 1500 <;> cases inS b.Shift (-1000) 1000 <;> cases inS b.Limit 0 100000 <;> cases inS b.Short b.Limit 100000 <;> cases inS b.Hold 0 200000 <;> rfl
theorem z7s (K : Nat) (b : Branch) : z54 K b = some (if brS b then 0 else 4) := by
 unfold z54 brS
 simp only [zew, Option.bind_some]
 cases inS b.X 1 10000 <;> cases inS b.Tap 500 1500 <;> cases inS b.Shift (-1000) 1000 <;> cases inS b.Limit 0 100000 <;> cases inS b.Short b.Limit 100000 <;> cases inS b.Hold 0 200000 <;> rfl
end Go.Am.Tryd
/- Plain law: NetmodelChecks answers true. -/
namespace Go.Am.Tryd
open Go Go.Am Go.Proofs
variable {K : Nat} {n : Network}
theorem zbz {α S T E Q : Type} (chk : α -> S -> E ⊕ S) (g : S -> T) (chk' : α -> T -> (E × Q) ⊕ T) (q0 : Q) (h : ∀ x s, ∃ q, chk' x (g s) = Sum.elim (fun e => .inl (e, q)) (fun s' => .inr (g s')) (chk x s)) :
  ∀ (xs : List α) (s : S), ∃ q, runS chk' xs (g s) = Sum.elim (fun e => .inl (e, q)) (fun s' => .inr (g s')) (runS chk xs s)
 | [], s => ⟨q0, rfl⟩
 | x :: xs, s => by
  simp only [runS]
  obtain ⟨q, hq⟩ := h x s
  rw [hq]
  cases chk x s with
  | inl e => exact ⟨q, rfl⟩
  | inr s' => exact zbz chk g chk' q0 h xs s'
def Sh (K : Nat) (s : zAd) : Prop := s.size < K /\ s.size <= 1048576
structure Fits (K : Nat) (n : Network) : Prop where
 many : 200 < K
 nodes : ∀ s ∈ n.Nodes, Sh K s
 sw : ∀ x ∈ n.Switches, Sh K x.Name
 br : ∀ x ∈ n.Branches, Sh K x.Name
 ge : ∀ x ∈ n.Gens, Sh K x.Name
 lo : ∀ x ∈ n.Loads, Sh K x.Name
 st : ∀ x ∈ n.Stores, Sh K x.Name
abbrev NL := Netmodel_names × List zAd
def gNL (m : List zAd) : NL := (⟨m⟩, m)
theorem z7t {α : Type} {xs : List α} {i : Nat} {x : α} (h : xs[i]? = some x) : x ∈ xs := List.mem_of_getElem? h
theorem z8z {α : Type} {xs : List α} {i : Nat} {x : α} (h : xs[i]? = some x) : i < xs.length := (zAi h).1
theorem zlt (F : Fits K n) (hn : n.Nodes.length <= 24) : z13 K n K ⟨[]⟩ [] 0 = some (Sum.elim .inl (fun m => .inr (gNL m)) (runS chkN n.Nodes [])) := by
 have hm := F.many
 have h : z13 K n K (gNL []).1 (gNL []).2 0 = _ := z80 n.Nodes (fun k (s : NL) i => z13 K n k s.1 s.2 i)
  (fun x s => if (addS s.2 x).1 != 0 then .inl (addS s.2 x).1 else .inr (gNL (addS s.2 x).2)) (fun s i => s.2.length <= i)
  (fun k s i x hx hI => by
   obtain ⟨h1, h2⟩ := F.nodes x (z7t hx)
   have hi := z8z hx
   show z13 K n (k + 1) s.1 s.2 i = _
   rw [z13, z48 hi]
   simp only [if_true, z24 hx, Option.bind_some, zgl hm ⟨s.2⟩ x h1 h2 (by show s.2.length <= 150; omega), kw1 hi (by omega)]
   by_cases h : ((addS s.2 x).1 != 0) = true <;> simp [h, gNL])
  (fun s i x s' hx hI hc => by
   have := zby s.2 x
   split at hc
   ·cases hc
   ·cases hc; show (addS s.2 x).2.length <= i + 1; omega)
  (fun k s i hi => by
   show z13 K n (k + 1) s.1 s.2 i = _
   rw [z13, z2j hi]; simp) K (gNL []) (by omega) (by simp [gNL])
 rw [za5 chkN gNL _ (fun x s => by unfold chkN; by_cases h : ((addS s x).1 != 0) = true <;> simp [h, gNL])] at h
 exact h
theorem zas {α E : Type} (F : Fits K n) (hn : n.Nodes.length <= 24) (xs : List α) (it : α -> Item) (l : Nat -> NL -> Int -> Option (E ⊕ NL)) (hx : xs.length <= 32) (m : List zAd) (hmm : m.length <= 110)
  (c : α -> NL -> E ⊕ NL) (h : ∀ k (s : NL) (i : Nat) x, xs[i]? = some x -> s.2.length <= 145 -> l (k + 1) s i = Sum.elim (fun e => some (.inl e)) (fun s' => l k s' ((i + 1 : Nat) : Int)) (c x s))
  (hc : ∀ x s s', c x s = .inr s' -> s'.2.length <= s.2.length + 1) (h0 : ∀ k s (i : Nat), xs.length <= i -> l (k + 1) s i = some (.inr s)) : l K (gNL m) 0 = some (runS c xs (gNL m)) := by
 have hm := F.many
 refine z80 xs l c (fun s i => s.2.length <= m.length + i) (fun k s i x hx' hI => h k s i x hx' (by have := z8z hx'; omega)) (fun s i x s' hx' hI hc' => by have := hc x s s' hc'; omega) h0 K (gNL m) (by omega) (by simp [gNL])
theorem zat {α : Type} {n : Network} (it : α -> Item) : ∀ (xs : List α) (m m' : List zAd), runS (fun x => chkI n (it x)) xs m = .inr m' -> m'.length <= m.length + xs.length
 | [], m, m', h => by cases h; simp
 | x :: xs, m, m', h => by
  simp only [runS] at h
  cases hq : chkI n (it x) m with
  | inl e => rw [hq] at h; cases h
  | inr m1 =>
   rw [hq] at h
   have h1 := zat it xs m1 m' h
   have h2 : m1.length <= m.length + 1 := by
    unfold chkI at hq
    have h3 := z8v n m (it x).name (it x).nodes
    split at hq
    ·cases hq
    ·split at hq
     ·cases hq
     ·split at hq
      ·cases hq
      ·cases hq; exact h3
   simp; omega
theorem zlu (F : Fits K n) (hn : n.Nodes.length <= 24) (hx : n.Switches.length <= 32) (m : List zAd) (hmm : m.length <= 110) : z14 K n K ⟨m⟩ m 0 = some (Sum.elim .inl (fun m => .inr (gNL m)) (runS (fun x => chkI n (iSw x)) n.Switches m)) := by
 have hm := F.many
 have h : z14 K n K (gNL m).1 (gNL m).2 0 = _ := zas F hn n.Switches iSw (fun k (s : NL) i => z14 K n k s.1 s.2 i) hx m hmm
  (fun x s => if (devS n s.2 x.Name [x.A, x.B]).1 != 0 then .inl (devS n s.2 x.Name [x.A, x.B]).1 else if sEq x.A x.B then .inl 3 else .inr (gNL (devS n s.2 x.Name [x.A, x.B]).2))
  (fun k s i x hx' hI => by
   obtain ⟨h1, h2⟩ := F.sw x (z7t hx')
   have hi := z8z hx'
   show z14 K n (k + 1) s.1 s.2 i = _
   rw [z14, z48 hi]
   simp only [if_true, z24 hx', Option.bind_some, zar hm hn ⟨s.2⟩ x.Name [x.A, x.B] h1 h2 (by show s.2.length <= 150; omega) (by simp), kw1 hi (by omega)]
   by_cases h : ((devS n s.2 x.Name [x.A, x.B]).1 != 0) = true <;> by_cases h2 : sEq x.A x.B = true <;> simp [gNL, h, h2])
  (fun x s s' hc => by
   have := z8v n s.2 x.Name [x.A, x.B]
   split at hc
   ·cases hc
   ·split at hc
    ·cases hc
    ·cases hc; exact this)
  (fun k s i hi => by
   show z14 K n (k + 1) s.1 s.2 i = _
   rw [z14, z2j hi]; simp)
 rw [za5 (fun x => chkI n (iSw x)) gNL _ (fun x s => by simp only [chkI, iSw, gNL, apS, Bool.true_and]; by_cases h : ((devS n s x.Name [x.A, x.B]).1 != 0) = true <;> by_cases h2 : sEq x.A x.B = true <;> simp [h, h2])] at h
 exact h
theorem zlv (F : Fits K n) (hn : n.Nodes.length <= 24) (hx : n.Branches.length <= 32) (m : List zAd) (hmm : m.length <= 110) : z15 K n K ⟨m⟩ m 0 = some (Sum.elim .inl (fun m => .inr (gNL m)) (runS (fun x => chkI n (iBr x)) n.Branches m)) := by
 have hm := F.many
 have h : z15 K n K (gNL m).1 (gNL m).2 0 = _ := zas F hn n.Branches iBr (fun k (s : NL) i => z15 K n k s.1 s.2 i) hx m hmm
  (fun x s => if (devS n s.2 x.Name [x.From, x.To]).1 != 0 then .inl (devS n s.2 x.Name [x.From, x.To]).1 else if sEq x.From x.To then .inl 3 else if brS x then .inr (gNL (devS n s.2 x.Name [x.From, x.To]).2) else .inl 4)
  (fun k s i x hx' hI => by
   obtain ⟨h1, h2⟩ := F.br x (z7t hx')
   have hi := z8z hx'
   show z15 K n (k + 1) s.1 s.2 i = _
   rw [z15, z48 hi]
   simp only [if_true, z24 hx', Option.bind_some, zar hm hn ⟨s.2⟩ x.Name [x.From, x.To] h1 h2 (by show s.2.length <= 150; omega) (by simp), kw1 hi (by omega), zex]
   by_cases h : ((devS n s.2 x.Name [x.From, x.To]).1 != 0) = true <;> by_cases h2 : sEq x.From x.To = true <;> by_cases h3 : brS x = true <;> simp [gNL, h, h2, h3])
  (fun x s s' hc => by
   have := z8v n s.2 x.Name [x.From, x.To]
   split at hc
   ·cases hc
   ·split at hc
    ·cases hc
    ·split at hc
     ·cases hc; exact this
     ·cases hc)
  (fun k s i hi => by
   show z15 K n (k + 1) s.1 s.2 i = _
   rw [z15, z2j hi]; simp)
 rw [za5 (fun x => chkI n (iBr x)) gNL _ (fun x s => by simp only [chkI, iBr, gNL, apS, Bool.true_and]; by_cases h : ((devS n s x.Name [x.From, x.To]).1 != 0) = true <;> by_cases h2 : sEq x.From x.To = true <;> by_cases h3 : brS x = true <;> simp [h, h2, h3])] at h
 exact h
end Go.Am.Tryd
/- Plain law: NetmodelChecks answers true. -/
namespace Go.Am.Tryd
open Go Go.Am Go.Proofs
variable {K : Nat} {n : Network}
theorem zlw (F : Fits K n) (hn : n.Nodes.length <= 24) (hx : n.Gens.length <= 32) (m : List zAd) (hmm : m.length <= 110) : ∃ q, z0p K n K ⟨m⟩ m 0 = some (Sum.elim (fun e => .inl (e, q)) (fun m => .inr (gNL m)) (runS (fun x => chkI n (iGe x)) n.Gens m)) := by
 have hm := F.many
 have h : z0p K n K (gNL m).1 (gNL m).2 0 = _ := zas F hn n.Gens iGe (fun k (s : NL) i => z0p K n k s.1 s.2 i) hx m hmm
  (fun x s => if (devS n s.2 x.Name [x.Node]).1 != 0 then .inl ((devS n s.2 x.Name [x.Node]).1, (⟨(devS n s.2 x.Name [x.Node]).2⟩ : Netmodel_names)) else if inS x.Least 0 100000 && inS x.Most x.Least 100000 && inS x.Ramp 0 100000 then .inr (gNL (devS n s.2 x.Name [x.Node]).2) else .inl (4, ⟨(devS n s.2 x.Name [x.Node]).2⟩))
  (fun k s i x hx' hI => by
   obtain ⟨h1, h2⟩ := F.ge x (z7t hx')
   have hi := z8z hx'
   show z0p K n (k + 1) s.1 s.2 i = _
   rw [z0p, z48 hi]
   simp only [if_true, z24 hx', Option.bind_some, zar hm hn ⟨s.2⟩ x.Name [x.Node] h1 h2 (by show s.2.length <= 150; omega) (by simp), kw1 hi (by omega), z84]
   by_cases h : ((devS n s.2 x.Name [x.Node]).1 != 0) = true <;> by_cases h2 : inS x.Least 0 100000 = true <;> by_cases h3 : inS x.Most x.Least 100000 = true <;> by_cases h4 : inS x.Ramp 0 100000 = true <;> simp [gNL, h, h2, h3, h4, tu1])
  (fun x s s' hc => by
   have := z8v n s.2 x.Name [x.Node]
   split at hc
   ·cases hc
   ·split at hc
    ·cases hc; exact this
    ·cases hc)
  (fun k s i hi => by
   show z0p K n (k + 1) s.1 s.2 i = _
   rw [z0p, z2j hi]; simp)
 obtain ⟨q, hq⟩ := zbz (fun x => chkI n (iGe x)) gNL (fun x (s : NL) => if (devS n s.2 x.Name [x.Node]).1 != 0 then .inl ((devS n s.2 x.Name [x.Node]).1, (⟨(devS n s.2 x.Name [x.Node]).2⟩ : Netmodel_names)) else if inS x.Least 0 100000 && inS x.Most x.Least 100000 && inS x.Ramp 0 100000 then .inr (gNL (devS n s.2 x.Name [x.Node]).2) else .inl (4, ⟨(devS n s.2 x.Name [x.Node]).2⟩)) (⟨[]⟩ : Netmodel_names)
  (fun x s => ⟨⟨(devS n s x.Name [x.Node]).2⟩, by simp only [chkI, iGe, gNL, apS, Bool.false_and]; by_cases h : ((devS n s x.Name [x.Node]).1 != 0) = true <;> by_cases h2 : inS x.Least 0 100000 = true <;> by_cases h3 : inS x.Most x.Least 100000 = true <;> by_cases h4 : inS x.Ramp 0 100000 = true <;> simp [h, h2, h3, h4]⟩) n.Gens m
 rw [hq] at h
 exact ⟨q, h⟩
theorem zlx (F : Fits K n) (hn : n.Nodes.length <= 24) (hx : n.Loads.length <= 32) (m : List zAd) (hmm : m.length <= 110) : ∃ q, z0q K n K ⟨m⟩ m 0 = some (Sum.elim (fun e => .inl (e, q)) (fun m => .inr (gNL m)) (runS (fun x => chkI n (iLo x)) n.Loads m)) := by
 have hm := F.many
 have h : z0q K n K (gNL m).1 (gNL m).2 0 = _ := zas F hn n.Loads iLo (fun k (s : NL) i => z0q K n k s.1 s.2 i) hx m hmm
  (fun x s => if (devS n s.2 x.Name [x.Node]).1 != 0 then .inl ((devS n s.2 x.Name [x.Node]).1, (⟨(devS n s.2 x.Name [x.Node]).2⟩ : Netmodel_names)) else if inS x.Demand 0 100000 then .inr (gNL (devS n s.2 x.Name [x.Node]).2) else .inl (4, ⟨(devS n s.2 x.Name [x.Node]).2⟩))
  (fun k s i x hx' hI => by
   obtain ⟨h1, h2⟩ := F.lo x (z7t hx')
   have hi := z8z hx'
   show z0q K n (k + 1) s.1 s.2 i = _
   rw [z0q, z48 hi]
   simp only [if_true, z24 hx', Option.bind_some, zar hm hn ⟨s.2⟩ x.Name [x.Node] h1 h2 (by show s.2.length <= 150; omega) (by simp), kw1 hi (by omega), z84]
   by_cases h : ((devS n s.2 x.Name [x.Node]).1 != 0) = true <;> by_cases h2 : inS x.Demand 0 100000 = true <;> simp [gNL, h, h2, tu1])
  (fun x s s' hc => by
   have := z8v n s.2 x.Name [x.Node]
   split at hc
   ·cases hc
   ·split at hc
    ·cases hc; exact this
    ·cases hc)
  (fun k s i hi => by
   show z0q K n (k + 1) s.1 s.2 i = _
   rw [z0q, z2j hi]; simp)
 obtain ⟨q, hq⟩ := zbz (fun x => chkI n (iLo x)) gNL (fun x (s : NL) => if (devS n s.2 x.Name [x.Node]).1 != 0 then .inl ((devS n s.2 x.Name [x.Node]).1, (⟨(devS n s.2 x.Name [x.Node]).2⟩ : Netmodel_names)) else if inS x.Demand 0 100000 then .inr (gNL (devS n s.2 x.Name [x.Node]).2) else .inl (4, ⟨(devS n s.2 x.Name [x.Node]).2⟩)) (⟨[]⟩ : Netmodel_names)
  (fun x s => ⟨⟨(devS n s x.Name [x.Node]).2⟩, by simp only [chkI, iLo, gNL, apS, Bool.false_and]; by_cases h : ((devS n s x.Name [x.Node]).1 != 0) = true <;> by_cases h2 : inS x.Demand 0 100000 = true <;> simp [h, h2]⟩) n.Loads m
 rw [hq] at h
 exact ⟨q, h⟩
theorem zly (F : Fits K n) (hn : n.Nodes.length <= 24) (hx : n.Stores.length <= 32) (m : List zAd) (hmm : m.length <= 110) : ∃ q, z0r K n K ⟨m⟩ m 0 = some (Sum.elim (fun e => .inl (e, q)) (fun m => .inr (gNL m)) (runS (fun x => chkI n (iSt x)) n.Stores m)) := by
 have hm := F.many
 have h : z0r K n K (gNL m).1 (gNL m).2 0 = _ := zas F hn n.Stores iSt (fun k (s : NL) i => z0r K n k s.1 s.2 i) hx m hmm
  (fun x s => if (devS n s.2 x.Name [x.Node]).1 != 0 then .inl ((devS n s.2 x.Name [x.Node]).1, (⟨(devS n s.2 x.Name [x.Node]).2⟩ : Netmodel_names)) else if inS x.Charge 0 100000 && inS x.Discharge 0 100000 && inS x.Capacity 0 100000 then .inr (gNL (devS n s.2 x.Name [x.Node]).2) else .inl (4, ⟨(devS n s.2 x.Name [x.Node]).2⟩))
  (fun k s i x hx' hI => by
   obtain ⟨h1, h2⟩ := F.st x (z7t hx')
   have hi := z8z hx'
   show z0r K n (k + 1) s.1 s.2 i = _
   rw [z0r, z48 hi]
   simp only [if_true, z24 hx', Option.bind_some, zar hm hn ⟨s.2⟩ x.Name [x.Node] h1 h2 (by show s.2.length <= 150; omega) (by simp), kw1 hi (by omega), z84]
   by_cases h : ((devS n s.2 x.Name [x.Node]).1 != 0) = true <;> by_cases h2 : inS x.Charge 0 100000 = true <;> by_cases h3 : inS x.Discharge 0 100000 = true <;> by_cases h4 : inS x.Capacity 0 100000 = true <;> simp [gNL, h, h2, h3, h4, tu1])
  (fun x s s' hc => by
   have := z8v n s.2 x.Name [x.Node]
   split at hc
   ·cases hc
   ·split at hc
    ·cases hc; exact this
    ·cases hc)
  (fun k s i hi => by
   show z0r K n (k + 1) s.1 s.2 i = _
   rw [z0r, z2j hi]; simp)
 obtain ⟨q, hq⟩ := zbz (fun x => chkI n (iSt x)) gNL (fun x (s : NL) => if (devS n s.2 x.Name [x.Node]).1 != 0 then .inl ((devS n s.2 x.Name [x.Node]).1, (⟨(devS n s.2 x.Name [x.Node]).2⟩ : Netmodel_names)) else if inS x.Charge 0 100000 && inS x.Discharge 0 100000 && inS x.Capacity 0 100000 then .inr (gNL (devS n s.2 x.Name [x.Node]).2) else .inl (4, ⟨(devS n s.2 x.Name [x.Node]).2⟩)) (⟨[]⟩ : Netmodel_names)
  (fun x s => ⟨⟨(devS n s x.Name [x.Node]).2⟩, by simp only [chkI, iSt, gNL, apS, Bool.false_and]; by_cases h : ((devS n s x.Name [x.Node]).1 != 0) = true <;> by_cases h2 : inS x.Charge 0 100000 = true <;> by_cases h3 : inS x.Discharge 0 100000 = true <;> by_cases h4 : inS x.Capacity 0 100000 = true <;> simp [h, h2, h3, h4]⟩) n.Stores m
 rw [hq] at h
 exact ⟨q, h⟩
theorem src (F : Fits K n) (hb : bigS n = false) (m : List zAd) (hmm : m.length <= 80) : ∃ q, z3o K n ⟨m⟩ = some (Sum.elim (fun e => e) (fun _ => 0) (runS (chkI n) (n.Gens.map iGe ++ n.Loads.map iLo ++ n.Stores.map iSt) m), q) := by
 have hb' : n.Nodes.length <= 24 /\ n.Switches.length <= 32 /\ n.Branches.length <= 24 /\ n.Gens.length <= 10 /\ n.Loads.length <= 12 /\ n.Stores.length <= 4 := by
  unfold bigS at hb; simp at hb; omega
 obtain ⟨a1, a2, a3, a4, a5, a6⟩ := hb'
 obtain ⟨q1, h1⟩ := zlw F a1 (by omega) m (by omega)
 unfold z3o
 simp only [h1, z5b, z8j]
 cases r1 : runS (fun x => chkI n (iGe x)) n.Gens m with
 | inl e => exact ⟨q1, by simp [z66, tu2]⟩
 | inr m1 =>
  have b1 := zat iGe n.Gens m m1 r1
  obtain ⟨q2, h2⟩ := zlx F a1 (by omega) m1 (by omega)
  simp only [Sum.elim_inr, z66, tu2, Option.bind_some, gNL, h2]
  cases r2 : runS (fun x => chkI n (iLo x)) n.Loads m1 with
  | inl e => exact ⟨q2, by simp [z5b, z8j, r2]⟩
  | inr m2 =>
   have b2 := zat iLo n.Loads m1 m2 r2
   obtain ⟨q3, h3⟩ := zly F a1 (by omega) m2 (by omega)
   simp only [Sum.elim_inr, Option.bind_some, gNL, h3]
   cases r3 : runS (fun x => chkI n (iSt x)) n.Stores m2 with
   | inl e => exact ⟨q3, by simp [z5b, z8j, r2, r3]⟩
   | inr m3 => exact ⟨⟨m3⟩, by simp [gNL, z5b, z8j, r2, r3]⟩
theorem zgn (K : Nat) (n : Network) : z4g K n = some (if bigS n then 2 else 0) := by
 unfold z4g bigS
 by_cases a1 : (n.Nodes.length : Int) > 24 <;> by_cases a2 : (n.Switches.length : Int) > 32 <;> by_cases a3 : (n.Branches.length : Int) > 24 <;> by_cases a4 : (n.Gens.length : Int) > 10 <;> by_cases a5 : (n.Loads.length : Int) > 12 <;> by_cases a6 : (n.Stores.length : Int) > 4 <;>
  simp [a1, a2, a3, a4, a5, a6, tu1] <;> omega
theorem zdc (n : Network) : ∀ (xs : List zAd) (m m' : List zAd), runS chkN xs m = .inr m' -> m'.length <= m.length + xs.length
 | [], m, m', h => by cases h; simp
 | x :: xs, m, m', h => by
  simp only [runS] at h
  cases hq : chkN x m with
  | inl e => rw [hq] at h; cases h
  | inr m1 =>
   rw [hq] at h
   have h1 := zdc n xs m1 m' h
   have h2 : m1.length <= m.length + 1 := by
    unfold chkN at hq
    have h3 := zby m x
    split at hq
    ·cases hq
    ·cases hq; exact h3
   simp; omega
theorem za7 (F : Fits K n) : z3p K n = some (netS n) := by
 unfold z3p netS
 rw [zgn]
 cases hb : bigS n with
 | true => simp
 | false =>
 have hb' : n.Nodes.length <= 24 /\ n.Switches.length <= 32 /\ n.Branches.length <= 24 /\ n.Gens.length <= 10 /\ n.Loads.length <= 12 /\ n.Stores.length <= 4 := by
  unfold bigS at hb; simp at hb; omega
 obtain ⟨a1, a2, a3, a4, a5, a6⟩ := hb'
 simp only [Option.bind_some, zlt F a1]
 cases r0 : runS chkN n.Nodes [] with
 | inl e => simp [z66, tu1]
 | inr m =>
  have b0 := zdc n n.Nodes [] m r0
  simp only [Sum.elim_inr, z66, tu1, tu2, Option.bind_some, gNL, zlu F a1 (by omega) m (by simp at b0; omega), z5m, List.append_assoc, z5b (chkI n) (n.Switches.map iSw), z5b (chkI n) (n.Branches.map iBr)]
  simp only [z8j (chkI n) iSw]
  cases r1 : runS (fun x => chkI n (iSw x)) n.Switches m with
  | inl e => simp
  | inr m1 =>
   have b1 := zat iSw n.Switches m m1 r1
   simp only [Sum.elim_inr, Option.bind_some, gNL, zlv F a1 (by omega) m1 (by simp at b0; omega), z5b (chkI n) (n.Branches.map iBr), z8j (chkI n) iBr]
   cases r2 : runS (fun x => chkI n (iBr x)) n.Branches m1 with
   | inl e => simp
   | inr m2 =>
    have b2 := zat iBr n.Branches m1 m2 r2
    obtain ⟨q, h3⟩ := src F hb m2 (by simp at b0; omega)
    simp only [Sum.elim_inr, Option.bind_some, gNL, h3, List.append_assoc]
    cases runS (chkI n) (n.Gens.map iGe ++ (n.Loads.map iLo ++ n.Stores.map iSt)) m2 <;> simp
theorem zjn (acc : List Item) (ha : acc.length <= 100) (hx : n.Switches.length <= 32) (hK : 200 < K) : z3f K n K acc 0 = some (acc ++ n.Switches.map iSw) :=
 z5h n.Switches (fun k acc i => z3f K n k acc i) iSw acc
  (fun k acc' i x hx' hl => by
   have hi := z8z hx'
   have h9 : acc'.length + 1 <= 16777216 := by omega
   show z3f K n (k + 1) acc' i = _
   rw [z3f, z48 hi]
   simp only [if_true, z24 hx', Option.bind_some, kw1 hi (by omega), zew, z7s, List.length_cons, List.length_nil]
   simp [iSw, tu1, h9])
  (fun k acc i hi => by
   show z3f K n (k + 1) acc i = _
   rw [z3f, z2j hi]; simp) K (by omega)
theorem zjo (acc : List Item) (ha : acc.length <= 100) (hx : n.Branches.length <= 32) (hK : 200 < K) : z3g K n K acc 0 = some (acc ++ n.Branches.map iBr) :=
 z5h n.Branches (fun k acc i => z3g K n k acc i) iBr acc
  (fun k acc' i x hx' hl => by
   have hi := z8z hx'
   have h9 : acc'.length + 1 <= 16777216 := by omega
   show z3g K n (k + 1) acc' i = _
   rw [z3g, z48 hi]
   simp only [if_true, z24 hx', Option.bind_some, kw1 hi (by omega), zew, z7s, List.length_cons, List.length_nil]
   by_cases h2 : brS x = true <;> simp [iBr, tu1, h9, h2])
  (fun k acc i hi => by
   show z3g K n (k + 1) acc i = _
   rw [z3g, z2j hi]; simp) K (by omega)
theorem zjp (acc : List Item) (ha : acc.length <= 100) (hx : n.Gens.length <= 32) (hK : 200 < K) : z3h K n K acc 0 = some (acc ++ n.Gens.map iGe) :=
 z5h n.Gens (fun k acc i => z3h K n k acc i) iGe acc
  (fun k acc' i x hx' hl => by
   have hi := z8z hx'
   have h9 : acc'.length + 1 <= 16777216 := by omega
   show z3h K n (k + 1) acc' i = _
   rw [z3h, z48 hi]
   simp only [if_true, z24 hx', Option.bind_some, kw1 hi (by omega), zew, z7s, List.length_cons, List.length_nil]
   by_cases h2 : inS x.Least 0 100000 = true <;> by_cases h3 : inS x.Most x.Least 100000 = true <;> by_cases h4 : inS x.Ramp 0 100000 = true <;> simp [iGe, tu1, h9, h2, h3, h4])
  (fun k acc i hi => by
   show z3h K n (k + 1) acc i = _
   rw [z3h, z2j hi]; simp) K (by omega)
theorem zjq (acc : List Item) (ha : acc.length <= 100) (hx : n.Loads.length <= 32) (hK : 200 < K) : z3i K n K acc 0 = some (acc ++ n.Loads.map iLo) :=
 z5h n.Loads (fun k acc i => z3i K n k acc i) iLo acc
  (fun k acc' i x hx' hl => by
   have hi := z8z hx'
   have h9 : acc'.length + 1 <= 16777216 := by omega
   show z3i K n (k + 1) acc' i = _
   rw [z3i, z48 hi]
   simp only [if_true, z24 hx', Option.bind_some, kw1 hi (by omega), zew, z7s, List.length_cons, List.length_nil]
   by_cases h2 : inS x.Demand 0 100000 = true <;> simp [iLo, tu1, h9, h2])
  (fun k acc i hi => by
   show z3i K n (k + 1) acc i = _
   rw [z3i, z2j hi]; simp) K (by omega)
theorem zjr (acc : List Item) (ha : acc.length <= 100) (hx : n.Stores.length <= 32) (hK : 200 < K) : z3j K n K acc 0 = some (acc ++ n.Stores.map iSt) :=
 z5h n.Stores (fun k acc i => z3j K n k acc i) iSt acc
  (fun k acc' i x hx' hl => by
   have hi := z8z hx'
   have h9 : acc'.length + 1 <= 16777216 := by omega
   show z3j K n (k + 1) acc' i = _
   rw [z3j, z48 hi]
   simp only [if_true, z24 hx', Option.bind_some, kw1 hi (by omega), zew, z7s, List.length_cons, List.length_nil]
   by_cases h2 : inS x.Charge 0 100000 = true <;> by_cases h3 : inS x.Discharge 0 100000 = true <;> by_cases h4 : inS x.Capacity 0 100000 = true <;> simp [iSt, tu1, h9, h2, h3, h4])
  (fun k acc i hi => by
   show z3j K n (k + 1) acc i = _
   rw [z3j, z2j hi]; simp) K (by omega)
theorem ze1 (hb : bigS n = false) (hK : 200 < K) : z83 K n = some (z5m n) := by
 have hb' : n.Nodes.length <= 24 /\ n.Switches.length <= 32 /\ n.Branches.length <= 24 /\ n.Gens.length <= 10 /\ n.Loads.length <= 12 /\ n.Stores.length <= 4 := by
  unfold bigS at hb; simp at hb; omega
 obtain ⟨a1, a2, a3, a4, a5, a6⟩ := hb'
 unfold z83 z5m
 rw [zjn [] (by simp) (by omega) hK]
 simp only [Option.bind_some, tu1, List.nil_append]
 rw [zjo _ (by simp; omega) (by omega) hK]
 simp only [Option.bind_some]
 rw [zjp _ (by simp; omega) (by omega) hK]
 simp only [Option.bind_some]
 rw [zjq _ (by simp; omega) (by omega) hK]
 simp only [Option.bind_some]
 rw [zjr _ (by simp; omega) (by omega) hK]
 simp
def OkI (K : Nat) (x : Item) : Prop := Sh K x.name /\ x.nodes.length <= 2 /\ (x.apart = true -> x.nodes.length = 2)
theorem okI (F : Fits K n) : ∀ x ∈ z5m n, OkI K x := by
 intro x hx
 unfold z5m at hx
 simp only [List.mem_append, List.mem_map] at hx
 rcases hx with (((⟨y, hy, rfl⟩ | ⟨y, hy, rfl⟩) | ⟨y, hy, rfl⟩) | ⟨y, hy, rfl⟩) | ⟨y, hy, rfl⟩
 ·exact ⟨F.sw y hy, by simp [iSw], by simp [iSw]⟩
 ·exact ⟨F.br y hy, by simp [iBr], by simp [iBr]⟩
 ·exact ⟨F.ge y hy, by simp [iGe], by simp [iGe]⟩
 ·exact ⟨F.lo y hy, by simp [iLo], by simp [iLo]⟩
 ·exact ⟨F.st y hy, by simp [iSt], by simp [iSt]⟩
theorem zlz (F : Fits K n) (hn : n.Nodes.length <= 24) : z2c K n K [] 0 = some (runS chkN n.Nodes []) := by
 have hm := F.many
 exact z80 n.Nodes (fun k s i => z2c K n k s i) chkN (fun s i => s.length <= i)
  (fun k s i x hx hI => by
   obtain ⟨h1, h2⟩ := F.nodes x (z7t hx)
   have hi := z8z hx
   show z2c K n (k + 1) s i = _
   rw [z2c, z48 hi]
   simp only [if_true, z24 hx, Option.bind_some, zgm hm s x h1 h2 (by omega), kw1 hi (by omega), chkN]
   by_cases h : ((addS s x).1 != 0) = true <;> simp [h])
  (fun s i x s' hx hI hc => by
   have := zby s x
   unfold chkN at hc
   split at hc
   ·cases hc
   ·cases hc; omega)
  (fun k s i hi => by
   show z2c K n (k + 1) s i = _
   rw [z2c, z2j hi]; simp) K [] (by omega) (by simp)
theorem zm0 (F : Fits K n) (hb : bigS n = false) (m : List zAd) (hmm : m.length <= 24) : z2d K (z5m n) n K m 0 = some (runS (chkI n) (z5m n) m) := by
 have hb' : n.Nodes.length <= 24 /\ n.Switches.length <= 32 /\ n.Branches.length <= 24 /\ n.Gens.length <= 10 /\ n.Loads.length <= 12 /\ n.Stores.length <= 4 := by
  unfold bigS at hb; simp at hb; omega
 obtain ⟨a1, a2, a3, a4, a5, a6⟩ := hb'
 have hl : (z5m n).length <= 82 := by unfold z5m; simp; omega
 have hm := F.many
 exact z80 (z5m n) (fun k s i => z2d K (z5m n) n k s i) (chkI n) (fun s i => s.length <= 24 + i)
  (fun k s i x hx hI => by
   obtain ⟨⟨h1, h2⟩, h3, h4⟩ := okI F x (z7t hx)
   have hi := z8z hx
   show z2d K (z5m n) n (k + 1) s i = _
   rw [z2d, z48 hi]
   simp only [if_true, z24 hx, Option.bind_some, zgm hm s x.name h1 h2 (by omega), kw1 hi (by omega), chkI, devS, zkt, zjm x (show n.Nodes.length <= 1048576 by omega) (show n.Nodes.length < K by omega) (show x.nodes.length < K by omega) (by omega)]
   by_cases hA : ((addS s x.name).1 != 0) = true
   ·simp [hA]
   ·by_cases hE : x.nodes.all (hasS n.Nodes) = true
    ·by_cases hp : x.apart = true
     ·have h5 := h4 hp
      match hnd : x.nodes, h5 with
      | [a, b], _ =>
       rw [hnd] at hE
       by_cases hs : sEq a b = true <;> by_cases hB : x.bad = true <;> simp [hA, hE, hp, hs, hB, hnd, apS, z66, tu0, tu1, idx]
     ·by_cases hB : x.bad = true <;> simp [hA, hE, hp, hB, apS, z66, tu0, tu1]
    ·simp [hA, hE, z66, tu1, tu0])
  (fun s i x s' hx hI hc => by
   have h3 := z8v n s x.name x.nodes
   unfold chkI at hc
   split at hc
   ·cases hc
   ·split at hc
    ·cases hc
    ·split at hc
     ·cases hc
     ·cases hc; omega)
  (fun k s i hi => by
   show z2d K (z5m n) n (k + 1) s i = _
   rw [z2d, z2j hi]; simp) K m (by omega) hmm
theorem zia (F : Fits K n) : z6d K n = some (netS n) := by
 unfold z6d netS
 have hz : (if (decide ((List.length n.Nodes : Int) > 24)) = true then some true else (if (decide ((List.length n.Switches : Int) > 32)) = true then some true else (if (decide ((List.length n.Branches : Int) > 24)) = true then some true else (if (decide ((List.length n.Gens : Int) > 10)) = true then some true else (if (decide ((List.length n.Loads : Int) > 12)) = true then some true else some (decide ((List.length n.Stores : Int) > 4))))))) = some (bigS n) := by
  unfold bigS
  by_cases a1 : (n.Nodes.length : Int) > 24 <;> by_cases a2 : (n.Switches.length : Int) > 32 <;> by_cases a3 : (n.Branches.length : Int) > 24 <;> by_cases a4 : (n.Gens.length : Int) > 10 <;> by_cases a5 : (n.Loads.length : Int) > 12 <;> by_cases a6 : (n.Stores.length : Int) > 4 <;> simp [a1, a2, a3, a4, a5, a6] <;> omega
 rw [hz]
 simp only [Option.bind_some, tu1]
 cases hb : bigS n with
 | true => simp
 | false =>
 have hb' : n.Nodes.length <= 24 := by unfold bigS at hb; simp at hb; omega
 simp only [zlz F hb', Bool.false_eq_true, if_false, z66, Option.bind_some]
 cases r0 : runS chkN n.Nodes [] with
 | inl e => simp
 | inr m =>
  have b0 := zdc n n.Nodes [] m r0
  simp only [ze1 hb F.many, Option.bind_some, zm0 F hb m (by simp at b0; omega), Sum.elim_inr]
  cases runS (chkI n) (z5m n) m <;> simp
end Go.Am.Tryd
/- Numbers: digits in a base, the least one first; decimal texts. Plain, no program. -/
namespace Go.Am
open Go
def DigB (B : Int) (l : List Int) : Prop := ∀ d ∈ l, 0 <= d /\ d < B
theorem DigB.nil (B : Int) : DigB B [] := fun d h => by simp at h
theorem DigB.cons {B d : Int} {l : List Int} (h : DigB B (d :: l)) : (0 <= d /\ d < B) /\ DigB B l := ⟨h d (by simp), fun x hx => h x (by simp [hx])⟩
theorem DigB.app {B : Int} {l m : List Int} (h : DigB B l) (k : DigB B m) : DigB B (l ++ m) := fun d hd => by
 rcases List.mem_append.1 hd with hd | hd
 ·exact h d hd
 ·exact k d hd
def CanB (B : Int) (l : List Int) : Prop := DigB B l /\ l.getLast? ≠ some 0
theorem CanB.tail {B d : Int} {l : List Int} (h : CanB B (d :: l)) : CanB B l := by
 refine ⟨h.1.cons.2, fun e => h.2 ?_⟩
 cases l with
 | nil => simp at e
 | cons x l => rw [List.getLast?_cons_cons]; exact e
theorem z7e (a b : zAd) : z1u (a ++ b) = z1u a ++ z1u b := by
 unfold z1u
 rw [ByteArray.data_append, Array.toList_append, List.map_append]
end Go.Am
/- Graphs: connected parts, their numbers, closure of a matrix, ways. Plain, no program. -/
namespace Go.Am
open Go
def Edg (l : List (Int × Int)) (U : Nat -> Bool) (a b : Nat) : Prop := ∃ k, k < l.length /\ U k = true /\ (l.getD k (0, 0) = ((a : Int), (b : Int)) \/ l.getD k (0, 0) = ((b : Int), (a : Int)))
inductive Con (l : List (Int × Int)) (U : Nat -> Bool) : Nat -> Nat -> Prop
 | refl (a : Nat) : Con l U a a
 | tail {a b c : Nat} : Con l U a b -> Edg l U b c -> Con l U a c
structure Outer (l : List (Int × Int)) (U : Nat -> Bool) (n : Nat) (cs : List Int) (m s : Nat) : Prop where
 len : cs.length = n
 rng : ∀ i < n, -1 <= cs.getD i 0 /\ cs.getD i 0 < m
 done : ∀ i < s, i < n -> 0 <= cs.getD i 0
 cls : ∀ i j, i < n -> j < n -> 0 <= cs.getD i 0 -> (cs.getD i 0 = cs.getD j 0 ↔ Con l U i j)
 last : 0 < m -> ∃ j < s, j < n /\ cs.getD j 0 = (m : Int) - 1
 rgs : ∀ i < n, 0 < cs.getD i 0 -> ∃ j < i, cs.getD j 0 = cs.getD i 0 - 1
 few : m <= s
structure Mid (l : List (Int × Int)) (U : Nat -> Bool) (n : Nat) (base : List Int) (m s : Nat) (cs : List Int) : Prop where
 len : cs.length = n
 own : ∀ i < n, (cs.getD i 0 = m /\ base.getD i 0 = -1 /\ Con l U s i) \/ cs.getD i 0 = base.getD i 0
 start : cs.getD s 0 = m
theorem Edg.symm {l : List (Int × Int)} {U : Nat -> Bool} {a b : Nat} (h : Edg l U a b) : Edg l U b a := by
 obtain ⟨k, h1, h2, h3⟩ := h
 exact ⟨k, h1, h2, h3.symm⟩
theorem Con.trans {l : List (Int × Int)} {U : Nat -> Bool} {a b c : Nat} (h : Con l U a b) (k : Con l U b c) : Con l U a c := by
 induction k with
 | refl => exact h
 | tail _ e ih => exact .tail ih e
theorem Con.symm {l : List (Int × Int)} {U : Nat -> Bool} {a b : Nat} (h : Con l U a b) : Con l U b a := by
 induction h with
 | refl => exact .refl _
 | tail _ e ih => exact (Con.tail (.refl _) e.symm).trans ih
structure EqvOn (M : Nat -> Nat -> Bool) (n : Nat) : Prop where
 refl : ∀ a < n, M a a = true
 symm : ∀ a b, a < n -> b < n -> M a b = true -> M b a = true
 trans : ∀ a b c, a < n -> b < n -> c < n -> M a b = true -> M b c = true -> M a c = true
structure NumOk (M : Nat -> Nat -> Bool) (cs : List Int) (m i : Nat) : Prop where
 len : cs.length = i
 rng : ∀ a < i, 0 <= cs.getD a 0 /\ cs.getD a 0 < m
 cls : ∀ a b, a < i -> b < i -> (cs.getD a 0 = cs.getD b 0 ↔ M a b = true)
 last : 0 < m -> ∃ a < i, cs.getD a 0 = (m : Int) - 1
 rgs : ∀ a < i, 0 < cs.getD a 0 -> ∃ b < a, cs.getD b 0 = cs.getD a 0 - 1
 few : m <= i
structure WOk (l : List (Int × Int)) (U : Nat -> Bool) (n : Nat) (M : Nat -> Nat -> Bool) (m : Nat) : Prop where
 sound : ∀ a b, a < n -> b < n -> M a b = true -> Con l U a b
 refl : ∀ a < n, M a a = true
 edge : ∀ a b, a < n -> b < n -> Edg l U a b -> M a b = true
 tr : ∀ c < m, ∀ a b, a < n -> b < n -> M a c = true -> M c b = true -> M a b = true
def Wk (l : List (Int × Int)) (U : Nat -> Bool) (to9 : Nat) : Nat -> Nat -> Prop
 | 0, v => v = to9
 | k + 1, v => ∃ w, Edg l U v w /\ Wk l U to9 k w
structure FarOk (l : List (Int × Int)) (U : Nat -> Bool) (n to9 : Nat) (fs : List Int) (d : Nat) : Prop where
 len : fs.length = n
 rng : ∀ v < n, -1 <= fs.getD v 0
 fnd : ∀ v < n, ∀ k : Nat, fs.getD v 0 = k -> k <= d /\ Wk l U to9 k v /\ ∀ j < k, ¬ Wk l U to9 j v
 nof : ∀ v < n, fs.getD v 0 = -1 -> ∀ j ≤ d, ¬ Wk l U to9 j v
structure Rnd (l : List (Int × Int)) (U : Nat -> Bool) (n to9 : Nat) (fs gs : List Int) (d : Nat) : Prop where
 len : gs.length = n
 old : ∀ v < n, gs.getD v 0 = fs.getD v 0 \/ (fs.getD v 0 = -1 /\ gs.getD v 0 = (d : Int) + 1 /\ Wk l U to9 (d + 1) v)
def neg (n : Nat) (fs : List Int) : Nat := ((List.range n).filter fun v => fs.getD v 0 == -1).length
def two (p : Int × Int) : List Int := [p.1, p.2]
theorem w12 : z0u .i64 (1 + 1) = 2 := by rw [kw (by omega) (by omega)]; rfl
end Go.Am
/- Plain lemmas: rules for typed functions over whole numbers; digits set in place; the guess of a digit of a quotient. -/
namespace Go.Am
open Go
theorem DigB.set {B d : Int} {l : List Int} (h : DigB B l) (p : Nat) (hd : 0 <= d /\ d < B) : DigB B (l.set p d) := fun x hx => by
 rcases List.mem_or_eq_of_mem_set hx with h1 | h1
 ·exact h x h1
 ·subst h1; exact hd
theorem DigB.take {B : Int} {l : List Int} (h : DigB B l) (k : Nat) : DigB B (l.take k) := fun x hx => h x (List.mem_of_mem_take hx)
theorem DigB.drop {B : Int} {l : List Int} (h : DigB B l) (k : Nat) : DigB B (l.drop k) := fun x hx => h x (List.mem_of_mem_drop hx)
theorem zku {a b c : Int} (hc : 0 <= c) (h : a <= b) : c * a <= c * b := Int.mul_le_mul_of_nonneg_left h hc
theorem zjs {a b : Int} (ha : 0 <= a) (hb : 0 <= b) : 0 <= a * b := Int.mul_nonneg ha hb
structure Kn (B P v1 v2 vl top u3 ul q : Int) : Prop where
 B1 : 1 < B
 P0 : 0 < P
 v1p : 1 <= v1
 v2p : 0 <= v2
 v2b : v2 < B
 vlp : 0 <= vl
 vlb : vl < P
 tp : 0 <= top
 u3p : 0 <= u3
 u3b : u3 < B
 ulp : 0 <= ul
 ulb : ul < P
 q0 : 0 <= q
 qB : q < B
 lo : q * (P * (B * v1 + v2) + vl) <= P * (B * top + u3) + ul
 hi : P * (B * top + u3) + ul < (q + 1) * (P * (B * v1 + v2) + vl)
section
variable {B P v1 v2 vl top u3 ul q g r : Int}
theorem Kn.first (h : Kn B P v1 v2 vl top u3 ul q) : q <= top / v1 := by
 obtain ⟨B1, P0, v1p, v2p, v2b, vlp, vlb, tp, u3p, u3b, ulp, ulb, q0, qB, lo, hi⟩ := h
 rw [Int.le_ediv_iff_mul_le (by omega)]
 refine Int.le_of_lt_add_one (Int.not_le.1 fun hc => ?_)
 have a1 := zku (Int.le_of_lt (Int.mul_pos P0 (show 0 < B by omega))) hc
 have a2 := zjs (Int.le_of_lt P0) (zjs q0 v2p)
 have a3 := zjs q0 vlp
 have a4 := zku (Int.le_of_lt P0) (show u3 <= B - 1 by omega)
 grind
end
end Go.Am
/- Plain law: texts of whole numbers, and the reference's lines of a network. -/
namespace Go.Am.Tryd
open Go Go.Am Go.Proofs
variable {K : Nat} {n : Network}
def numC (c : Int) : Bool := (decide (48 <= c) && decide (c <= 57)) || decide (c = 45)
theorem dig1 (r : Int) (h : 0 <= r) (h9 : r <= 9) : ∃ t, ssl (⟨#[48, 49, 50, 51, 52, 53, 54, 55, 56, 57]⟩ : zAd) r (z0u .i64 (r + 1)) = some t /\ t.size = 1 /\ (z1u t).all numC = true := by
 have : r = 0 \/ r = 1 \/ r = 2 \/ r = 3 \/ r = 4 \/ r = 5 \/ r = 6 \/ r = 7 \/ r = 8 \/ r = 9 := by omega
 rcases this with rfl | rfl | rfl | rfl | rfl | rfl | rfl | rfl | rfl | rfl <;> exact ⟨_, rfl, rfl, by decide⟩
theorem zmk (K : Nat) : ∀ (d k : Nat) (m : Int) (s : zAd), 0 <= m -> m < 10 ^ d -> d + 2 < k -> d <= 19 -> (z1u s).all numC = true -> s.size + d <= 30 ->
  ∃ t, z36 K k m s = some t /\ (z1u t).all numC = true /\ 0 < t.size /\ t.size <= s.size + d + 1 := by
 have hend : ∀ (k : Nat) (s : zAd), 2 <= k -> (z1u s).all numC = true -> s.size <= 30 -> ∃ t, z36 K k 0 s = some t /\ (z1u t).all numC = true /\ 0 < t.size /\ t.size <= s.size + 1 := by
  intro k s hk ha hs
  obtain ⟨k, rfl⟩ : ∃ j, k = j + 2 := ⟨k - 2, by omega⟩
  have hout : ∀ (k : Nat) (s : zAd), s.size ≠ 0 -> z36 K (k + 1) 0 s = some s := fun k s he => by
   have hq : sEq s ⟨#[]⟩ = false := by
    cases h : sEq s ⟨#[]⟩ with
    | false => rfl
    | true => rw [z6a] at h; subst h; exact absurd rfl he
   rw [z36]
   simp [hq, tu1]
  by_cases he : s.size = 0
  ·have hse : s = ⟨#[]⟩ := by
    cases s; rename_i a
    have : a.size = 0 := he
    rw [Array.eq_empty_of_size_eq_zero this]
   subst hse
   obtain ⟨t, t1, t2, t3⟩ := dig1 0 (by decide) (by decide)
   have hts : (t ++ (⟨#[]⟩ : zAd)).size = 1 := by rw [ByteArray.size_append, t2]; rfl
   refine ⟨t ++ ⟨#[]⟩, ?_, by rw [z7e, List.all_append, t3]; rfl, by omega, by omega⟩
   rw [z36]
   have hq : sEq (⟨#[]⟩ : zAd) ⟨#[]⟩ = true := z6a.2 rfl
   have e1 : Int.tmod 0 10 = 0 := rfl
   have e2 : Int.tdiv 0 10 = 0 := rfl
   have e3 : decide ((0 : Int) > 0) = false := rfl
   simp only [e3, Bool.false_eq_true, if_false, hq, Option.bind_some, tu1, if_true, e1, e2, t1]
   rw [if_pos (by rw [t2]; decide), kw (by omega) (by omega), hout k _ (by omega)]
  ·exact ⟨s, hout (k + 1) s he, ha, by omega, by omega⟩
 intro d
 induction d with
 | zero =>
  intro k m s h0 h1 hk _ ha hs
  obtain rfl : m = 0 := by simp at h1; omega
  exact hend k s (by omega) ha (by omega)
 | succ d ih =>
  intro k m s h0 h1 hk hd ha hs
  by_cases hm : m = 0
  ·subst hm
   obtain ⟨t, a, b, c, e⟩ := hend k s (by omega) ha (by omega)
   exact ⟨t, a, b, c, by omega⟩
  ·obtain ⟨k, rfl⟩ : ∃ j, k = j + 1 := ⟨k - 1, by omega⟩
   have e1 : Int.tmod m 10 = m % 10 := Int.tmod_eq_emod_of_nonneg h0
   have e2 : Int.tdiv m 10 = m / 10 := Int.tdiv_eq_ediv_of_nonneg h0
   obtain ⟨t, t1, t2, t3⟩ := dig1 (m % 10) (by omega) (by omega)
   have hp : (10 : Int) ^ (d + 1) = 10 ^ d * 10 := Int.pow_succ 10 d
   have hp19 : (10 : Int) ^ d <= 10 ^ 18 := by have := Nat.pow_le_pow_right (n := 10) (by decide) (show d <= 18 by omega); exact_mod_cast this
   have hts : (t ++ s).size = 1 + s.size := by rw [ByteArray.size_append, t2]
   obtain ⟨u, u1, u2, u3, u4⟩ := ih k (m / 10) (t ++ s) (by omega) (by omega) (by omega) (by omega) (by rw [z7e, List.all_append, t3, ha]; rfl) (by omega)
   refine ⟨u, ?_, u2, u3, by omega⟩
   rw [z36]
   have hmp : decide (m > 0) = true := by simp; omega
   simp only [hmp, if_true, Option.bind_some, tu1, e1, e2, t1]
   rw [if_pos (by omega), kw (by omega) (by omega), u1]
theorem zm1 {x : Int} (hx : z57 .i64 x = true) (hK : 100 < K) : ∃ t, z9u K x = some t /\ (z1u t).all numC = true /\ 0 < t.size /\ t.size <= 21 := by
 have hx : -9223372036854775808 <= x /\ x <= 9223372036854775807 := by simpa [z57] using hx
 have hpos : ∀ (m : Int) (D : Nat), 0 <= m -> m <= 9223372036854775807 -> ∃ t, z3q K (D + 1) m = some t /\ (z1u t).all numC = true /\ 0 < t.size /\ t.size <= 20 := fun m D h0 h1 => by
  obtain ⟨t, a, b, c, e⟩ := zmk K 19 K m ⟨#[]⟩ h0 (by omega) (by omega) (by decide) rfl (by decide)
  refine ⟨t, ?_, b, c, by have : (⟨#[]⟩ : zAd).size = 0 := rfl; omega⟩
  rw [z3q]
  have : decide (m >= 0) = true := by simp; omega
  simp only [this, if_true, a, Option.bind_some, tu1]
 obtain ⟨D, hD⟩ : ∃ D, K = D + 1 + 1 := ⟨K - 2, by omega⟩
 have hfin : ∀ {t : zAd}, z3q K (D + 1 + 1) x = some t -> z9u K x = some t := fun {t} h => by
  unfold z9u
  have e : z3q K K x = z3q K (D + 1 + 1) x := by
   have : ∀ J, J = D + 1 + 1 -> z3q K J x = z3q K (D + 1 + 1) x := fun J h => by rw [h]
   exact this K hD
  rw [e, h]; rfl
 by_cases h0 : 0 <= x
 ·obtain ⟨t, a, b, c, e⟩ := hpos x (D + 1) h0 hx.2
  exact ⟨t, hfin a, b, c, by omega⟩
 ·have hn : decide (x >= 0) = false := by simp; omega
  by_cases hm : x = -9223372036854775808
  ·subst hm
   refine ⟨⟨#[45, 57, 50, 50, 51, 51, 55, 50, 48, 51, 54, 56, 53, 52, 55, 55, 53, 56, 48, 56]⟩, hfin ?_, by decide, by decide, by decide⟩
   rw [z3q]; rfl
  ·obtain ⟨t, a, b, c, e⟩ := hpos (-x) D (by omega) (by omega)
   refine ⟨⟨#[45]⟩ ++ t, hfin ?_, by rw [z7e, List.all_append, b]; rfl, by rw [ByteArray.size_append]; omega, by rw [ByteArray.size_append]; have : (⟨#[45]⟩ : zAd).size = 1 := rfl; omega⟩
   rw [z3q]
   have hb : (x == -9223372036854775808) = false := by simp; exact hm
   have h1 : (⟨#[45]⟩ : zAd).size = 1 := rfl
   simp only [hn, hb, Bool.false_eq_true, if_false, kw (show -9223372036854775808 <= -x by omega) (by omega), a, Option.bind_some]
   rw [if_pos (by omega)]
end Go.Am.Tryd
/- Plain law: the reference's lines of a network, as a list of texts for each device. -/
namespace Go.Am.Tryd
open Go Go.Am Go.Proofs
variable {K : Nat} {n : Network}
def decS (K : Nat) (x : Int) : zAd := (z9u K x).getD ⟨#[]⟩
def catW (s0 : zAd) (ws : List zAd) : zAd := ws.foldl (fun s w => s ++ (w ++ (⟨#[32]⟩ : zAd))) s0
def rowT (K : Nat) (l : List zAd) (v : List Int) : zAd := (catW (catW ⟨#[]⟩ l) (v.map (decS K))).extract 0 ((catW (catW ⟨#[]⟩ l) (v.map (decS K))).size - 1)
theorem ze2 {α S : Type} (xs : List α) (l : Nat -> S -> Int -> Option S) (f : S -> α -> S) (I : S -> Nat -> Prop)
  (h : ∀ k s (i : Nat) x, xs[i]? = some x -> I s i -> l (k + 1) s i = l k (f s x) ((i + 1 : Nat) : Int) /\ I (f s x) (i + 1)) (h0 : ∀ k s, l (k + 1) s xs.length = some s) :
  ∀ d k s (i : Nat), xs.length - i = d -> i <= xs.length -> d < k -> I s i -> l k s i = some ((xs.drop i).foldl f s) /\ I ((xs.drop i).foldl f s) xs.length := by
 intro d
 induction d with
 | zero =>
  intro k s i hd hi hk hs
  obtain ⟨k, rfl⟩ : ∃ m, k = m + 1 := ⟨k - 1, by omega⟩
  obtain rfl : i = xs.length := by omega
  rw [h0, List.drop_length]; exact ⟨rfl, hs⟩
 | succ d ih =>
  intro k s i hd hi hk hs
  obtain ⟨k, rfl⟩ : ∃ m, k = m + 1 := ⟨k - 1, by omega⟩
  have hx : xs[i]? = some xs[i] := zAh (by omega)
  obtain ⟨h1, h2⟩ := h k s i _ hx hs
  rw [h1, List.drop_eq_getElem_cons (show i < xs.length by omega), List.foldl_cons]
  exact ih k _ (i + 1) (by omega) (by omega) (by omega) h2
theorem zm8 {x : Int} (hx : z57 .i64 x = true) (hK : 100 < K) : z9u K x = some (decS K x) /\ (z1u (decS K x)).all numC = true /\ 0 < (decS K x).size /\ (decS K x).size <= 21 := by
 obtain ⟨t, a, b⟩ := zm1 hx hK
 have : decS K x = t := by unfold decS; rw [a]; rfl
 rw [this]; exact ⟨a, b⟩
theorem sp1 : (⟨#[32]⟩ : zAd).size = 1 := rfl
theorem zhw (hK : 100 < K) (l : List zAd) (v : List Int) (acc : List zAd) (hl : l.length <= 10) (hls : ∀ w ∈ l, w.size <= 1048576) (hv : v.length <= 10) (hvs : ∀ x ∈ v, z57 .i64 x = true) (hne : l ≠ []) (ha : acc.length <= 200) :
  z3c K l v acc = some (acc ++ [rowT K l v]) := by
 obtain ⟨a1, a2⟩ := ze2 l (fun k s i => z1q K l k s i) (fun s w => s ++ (w ++ (⟨#[32]⟩ : zAd))) (fun s i => i <= s.size /\ s.size <= i * 1048577) (fun k s i x hx ⟨h1, h2⟩ => by
  have hi := z8z hx
  have hz := hls x (z7t hx)
  have hz1 : (x ++ (⟨#[32]⟩ : zAd)).size = x.size + 1 := by rw [ByteArray.size_append, sp1]
  have hm : i * 1048577 <= 10 * 1048577 := Nat.mul_le_mul_right _ (by omega)
  refine ⟨?_, by rw [ByteArray.size_append, hz1]; omega, by rw [ByteArray.size_append, hz1, Nat.add_mul]; omega⟩
  show z1q K l (k + 1) s i = _
  rw [z1q, z48 hi]
  simp only [if_true, z24 hx, Option.bind_some]
  rw [if_pos (by rw [sp1]; omega), if_pos (by rw [hz1]; omega), kw1 hi (by omega)]) (fun k s => by
  show z1q K l (k + 1) s l.length = _
  rw [z1q, z2j (Nat.le_refl _)]; simp) l.length K ⟨#[]⟩ 0 (by omega) (by omega) (by omega) ⟨Nat.zero_le _, by decide⟩
 rw [List.drop_zero] at a1 a2
 have hl0 : 0 < l.length := List.length_pos_iff.2 hne
 have a3 : l.length <= (catW ⟨#[]⟩ l).size /\ (catW ⟨#[]⟩ l).size <= l.length * 1048577 := a2
 have hm : l.length * 1048577 <= 10 * 1048577 := Nat.mul_le_mul_right _ hl
 obtain ⟨b1, b2⟩ := ze2 v (fun k s i => z1r K v k s i) (fun s x => s ++ (decS K x ++ (⟨#[32]⟩ : zAd))) (fun s i => 0 < s.size /\ s.size <= 10485770 + i * 30) (fun k s i x hx ⟨h1, h2⟩ => by
  have hi := z8z hx
  obtain ⟨d1, _, _, d2⟩ := zm8 (hvs x (z7t hx)) hK
  have hz1 : (decS K x ++ (⟨#[32]⟩ : zAd)).size = (decS K x).size + 1 := by rw [ByteArray.size_append, sp1]
  refine ⟨?_, by rw [ByteArray.size_append]; omega, by rw [ByteArray.size_append, hz1, Nat.add_mul]; omega⟩
  show z1r K v (k + 1) s i = _
  rw [z1r, z48 hi]
  simp only [if_true, z24 hx, Option.bind_some, d1]
  rw [if_pos (by rw [sp1]; omega), if_pos (by rw [hz1]; omega), kw1 hi (by omega)]) (fun k s => by
  show z1r K v (k + 1) s v.length = _
  rw [z1r, z2j (Nat.le_refl _)]; simp) v.length K (catW ⟨#[]⟩ l) 0 (by omega) (by omega) (by omega) ⟨by omega, by omega⟩
 rw [List.drop_zero] at b1 b2
 have hcat : List.foldl (fun s x => s ++ (decS K x ++ (⟨#[32]⟩ : zAd))) (catW ⟨#[]⟩ l) v = catW (catW ⟨#[]⟩ l) (v.map (decS K)) := by
  unfold catW; rw [List.foldl_map]
 unfold z3c
 have a1' : z1q K l K ⟨#[]⟩ 0 = some (catW ⟨#[]⟩ l) := a1
 have b1' : z1r K v K (catW ⟨#[]⟩ l) 0 = some (catW (catW ⟨#[]⟩ l) (v.map (decS K))) := b1.trans (congrArg some hcat)
 have b2' : 0 < (catW (catW ⟨#[]⟩ l) (v.map (decS K))).size /\ (catW (catW ⟨#[]⟩ l) (v.map (decS K))).size <= 10485770 + v.length * 30 := by rw [<- hcat]; exact b2
 rw [a1', Option.bind_some, tu1, b1', Option.bind_some, tu1]
 have hss : ssl (catW (catW ⟨#[]⟩ l) (v.map (decS K))) 0 (z0u .i64 (((catW (catW ⟨#[]⟩ l) (v.map (decS K))).size : Int) - 1)) = some (rowT K l v) := by
  rw [kw (by omega) (by omega)]
  unfold ssl rowT
  rw [if_pos (by omega)]
  congr 2
  omega
 rw [hss, Option.bind_some, if_pos (by simp; omega)]
def nodL (s : zAd) : zAd := (⟨#[110, 111, 100, 101, 32]⟩ : zAd) ++ s
def swL (x : Switch) : zAd := ((if x.Breaker then (⟨#[98, 114, 101, 97, 107, 101, 114, 32]⟩ : zAd) else ⟨#[115, 119, 105, 116, 99, 104, 32]⟩) ++ ((((x.Name ++ (⟨#[32]⟩ : zAd)) ++ x.A) ++ (⟨#[32]⟩ : zAd)) ++ x.B)) ++ (if x.Open then (⟨#[32, 111, 112, 101, 110]⟩ : zAd) else ⟨#[32, 99, 108, 111, 115, 101, 100]⟩)
def brL (K : Nat) (x : Branch) : zAd := rowT K [⟨#[98, 114, 97, 110, 99, 104]⟩, x.Name, x.From, x.To] [x.X, x.Tap, x.Shift, x.Limit, x.Short, x.Hold]
def geL (K : Nat) (x : Gen) : zAd := rowT K [⟨#[103, 101, 110]⟩, x.Name, x.Node] [x.Least, x.Most, x.Ramp]
def loL (K : Nat) (x : Load_) : zAd := rowT K [⟨#[108, 111, 97, 100]⟩, x.Name, x.Node] [x.Demand]
def stL (K : Nat) (x : Store) : zAd := rowT K [⟨#[115, 116, 111, 114, 101]⟩, x.Name, x.Node] [x.Charge, x.Discharge, x.Capacity]
def z60 (K : Nat) (n : Network) : List zAd := n.Nodes.map nodL ++ n.Switches.map swL ++ n.Branches.map (brL K) ++ n.Gens.map (geL K) ++ n.Loads.map (loL K) ++ n.Stores.map (stL K)
def szB (s : zAd) : Prop := s.size <= 1048576
structure LOk (n : Network) : Prop where
 len : n.Nodes.length <= 24 /\ n.Switches.length <= 32 /\ n.Branches.length <= 24 /\ n.Gens.length <= 10 /\ n.Loads.length <= 12 /\ n.Stores.length <= 4
 nod : ∀ s ∈ n.Nodes, szB s
 sw : ∀ x ∈ n.Switches, szB x.Name /\ szB x.A /\ szB x.B
 br : ∀ x ∈ n.Branches, (szB x.Name /\ szB x.From /\ szB x.To) /\ ∀ y ∈ [x.X, x.Tap, x.Shift, x.Limit, x.Short, x.Hold], z57 .i64 y = true
 ge : ∀ x ∈ n.Gens, (szB x.Name /\ szB x.Node) /\ ∀ y ∈ [x.Least, x.Most, x.Ramp], z57 .i64 y = true
 lo : ∀ x ∈ n.Loads, (szB x.Name /\ szB x.Node) /\ ∀ y ∈ [x.Demand], z57 .i64 y = true
 st : ∀ x ∈ n.Stores, (szB x.Name /\ szB x.Node) /\ ∀ y ∈ [x.Charge, x.Discharge, x.Capacity], z57 .i64 y = true
theorem szN5 : (⟨#[110, 111, 100, 101, 32]⟩ : zAd).size = 5 := rfl
theorem zkv (x : Switch) (h : szB x.Name /\ szB x.A /\ szB x.B) (F : zAd -> Option (List zAd)) :
  (if (x.Name).size + ((⟨#[32]⟩ : zAd)).size <= 4611686018427387904 then (if ((x.Name ++ (⟨#[32]⟩ : zAd))).size + (x.A).size <= 4611686018427387904 then (if (((x.Name ++ (⟨#[32]⟩ : zAd)) ++ x.A)).size + ((⟨#[32]⟩ : zAd)).size <= 4611686018427387904 then (lt (((x.Name ++ (⟨#[32]⟩ : zAd)) ++ x.A) ++ (⟨#[32]⟩ : zAd)) fun x109 => (if (x109).size + (x.B).size <= 4611686018427387904 then (Option.bind ((if x.Breaker = true then (if ((⟨#[98, 114, 101, 97, 107, 101, 114, 32]⟩ : zAd)).size + ((x109 ++ x.B)).size <= 4611686018427387904 then (lt ((⟨#[98, 114, 101, 97, 107, 101, 114, 32]⟩ : zAd) ++ (x109 ++ x.B)) fun x121 => some x121) else none) else (if ((⟨#[115, 119, 105, 116, 99, 104, 32]⟩ : zAd)).size + ((x109 ++ x.B)).size <= 4611686018427387904 then (lt ((⟨#[115, 119, 105, 116, 99, 104, 32]⟩ : zAd) ++ (x109 ++ x.B)) fun x127 => some x127) else none))) (tu1 fun x130 => (Option.bind ((if x.Open = true then (if (x130).size + ((⟨#[32, 111, 112, 101, 110]⟩ : zAd)).size <= 4611686018427387904 then some (x130 ++ (⟨#[32, 111, 112, 101, 110]⟩ : zAd)) else none) else (if (x130).size + ((⟨#[32, 99, 108, 111, 115, 101, 100]⟩ : zAd)).size <= 4611686018427387904 then some (x130 ++ (⟨#[32, 99, 108, 111, 115, 101, 100]⟩ : zAd)) else none))) (tu1 F)))) else none)) else none) else none) else none) = F (swL x) := by
 obtain ⟨h1, h2, h3⟩ := h
 unfold szB at h1 h2 h3
 have z1 : (⟨#[98, 114, 101, 97, 107, 101, 114, 32]⟩ : zAd).size = 8 := rfl
 have z2 : (⟨#[115, 119, 105, 116, 99, 104, 32]⟩ : zAd).size = 7 := rfl
 have z3 : (⟨#[32, 111, 112, 101, 110]⟩ : zAd).size = 5 := rfl
 have z4 : (⟨#[32, 99, 108, 111, 115, 101, 100]⟩ : zAd).size = 7 := rfl
 unfold swL
 rw [if_pos (by rw [sp1]; omega), if_pos (by rw [ByteArray.size_append, sp1]; omega), if_pos (by rw [ByteArray.size_append, ByteArray.size_append, sp1]; omega)]
 show (if _ then _ else _) = _
 rw [if_pos (by rw [ByteArray.size_append, ByteArray.size_append, ByteArray.size_append, sp1]; omega)]
 cases x.Breaker <;> cases x.Open <;> simp only [Bool.false_eq_true, if_false, if_true] <;>
  (rw [if_pos (by simp only [ByteArray.size_append, sp1, z1, z2]; omega)]; show Option.bind (if _ then _ else _) _ = _; rw [if_pos (by simp only [ByteArray.size_append, sp1, z1, z2, z3, z4]; omega)]; rfl)
theorem za8 (h : LOk n) (hK : 200 < K) : z4j K n = some (z60 K n) := by
 obtain ⟨a1, a2, a3, a4, a5, a6⟩ := h.len
 have t0 : z27 K n K [] 0 = some ([] ++ n.Nodes.map nodL) := z5h n.Nodes (fun k acc i => z27 K n k acc i) nodL []
  (fun k acc' i x hx' hl => by
   have hi := z8z hx'
   have hz := h.nod x (z7t hx'); unfold szB at hz
   show z27 K n (k + 1) acc' i = _
   rw [z27, z48 hi]
   simp only [if_true, z24 hx', Option.bind_some, kw1 hi (by omega), List.length_cons, List.length_nil] at hl ⊢
   rw [if_pos (by rw [szN5]; omega), if_pos (by omega)]; rfl)
  (fun k acc i hi => by
   show z27 K n (k + 1) acc i = _
   rw [z27, z2j hi]; simp) K (by omega)
 have t2 : ∀ acc : List zAd, acc.length <= 100 -> z28 K n K acc 0 = some (acc ++ n.Switches.map swL) := fun acc ha => z5h n.Switches (fun k acc i => z28 K n k acc i) swL acc
  (fun k acc' i x hx' hl => by
   have hi := z8z hx'
   show z28 K n (k + 1) acc' i = _
   rw [z28, z48 hi]
   simp only [if_true, z24 hx', Option.bind_some, kw1 hi (by omega)]
   refine (zkv x (h.sw x (z7t hx')) _).trans ?_
   rw [if_pos (by simp; omega)])
  (fun k acc i hi => by
   show z28 K n (k + 1) acc i = _
   rw [z28, z2j hi]; simp) K (by omega)
 have t4 : ∀ acc : List zAd, acc.length <= 100 -> z29 K n K acc 0 = some (acc ++ n.Branches.map (brL K)) := fun acc ha => z5h n.Branches (fun k acc i => z29 K n k acc i) (brL K) acc
  (fun k acc' i x hx' hl => by
   have hi := z8z hx'
   obtain ⟨⟨q1, q2, q3⟩, q4⟩ := h.br x (z7t hx')
   unfold szB at q1 q2 q3
   show z29 K n (k + 1) acc' i = _
   rw [z29, z48 hi]
   simp only [if_true, z24 hx', Option.bind_some, kw1 hi (by omega)]
   rw [zhw (by omega) _ _ acc' (by simp) (by intro w hw; simp at hw; rcases hw with rfl | rfl | rfl | rfl <;> first | assumption | decide) (by simp) q4 (by simp) (by omega)]; rfl)
  (fun k acc i hi => by
   show z29 K n (k + 1) acc i = _
   rw [z29, z2j hi]; simp) K (by omega)
 have t6 : ∀ acc : List zAd, acc.length <= 100 -> z2a K n K acc 0 = some (acc ++ n.Gens.map (geL K)) := fun acc ha => z5h n.Gens (fun k acc i => z2a K n k acc i) (geL K) acc
  (fun k acc' i x hx' hl => by
   have hi := z8z hx'
   obtain ⟨⟨q1, q2⟩, q4⟩ := h.ge x (z7t hx')
   unfold szB at q1 q2
   show z2a K n (k + 1) acc' i = _
   rw [z2a, z48 hi]
   simp only [if_true, z24 hx', Option.bind_some, kw1 hi (by omega)]
   rw [zhw (by omega) _ _ acc' (by simp) (by intro w hw; simp at hw; rcases hw with rfl | rfl | rfl <;> first | assumption | decide) (by simp) q4 (by simp) (by omega)]; rfl)
  (fun k acc i hi => by
   show z2a K n (k + 1) acc i = _
   rw [z2a, z2j hi]; simp) K (by omega)
 have t8 : ∀ acc : List zAd, acc.length <= 100 -> z2b K n K acc 0 = some (acc ++ n.Loads.map (loL K)) := fun acc ha => z5h n.Loads (fun k acc i => z2b K n k acc i) (loL K) acc
  (fun k acc' i x hx' hl => by
   have hi := z8z hx'
   obtain ⟨⟨q1, q2⟩, q4⟩ := h.lo x (z7t hx')
   unfold szB at q1 q2
   show z2b K n (k + 1) acc' i = _
   rw [z2b, z48 hi]
   simp only [if_true, z24 hx', Option.bind_some, kw1 hi (by omega)]
   rw [zhw (by omega) _ _ acc' (by simp) (by intro w hw; simp at hw; rcases hw with rfl | rfl | rfl <;> first | assumption | decide) (by simp) q4 (by simp) (by omega)]; rfl)
  (fun k acc i hi => by
   show z2b K n (k + 1) acc i = _
   rw [z2b, z2j hi]; simp) K (by omega)
 have t10 : ∀ acc : List zAd, acc.length <= 110 -> z1z K n K acc 0 = some (acc ++ n.Stores.map (stL K)) := fun acc ha => z5h n.Stores (fun k acc i => z1z K n k acc i) (stL K) acc
  (fun k acc' i x hx' hl => by
   have hi := z8z hx'
   obtain ⟨⟨q1, q2⟩, q4⟩ := h.st x (z7t hx')
   unfold szB at q1 q2
   show z1z K n (k + 1) acc' i = _
   rw [z1z, z48 hi]
   simp only [if_true, z24 hx', Option.bind_some, kw1 hi (by omega)]
   rw [zhw (by omega) _ _ acc' (by simp) (by intro w hw; simp at hw; rcases hw with rfl | rfl | rfl <;> first | assumption | decide) (by simp) q4 (by simp) (by omega)]; rfl)
  (fun k acc i hi => by
   show z1z K n (k + 1) acc i = _
   rw [z1z, z2j hi]; simp) K (by omega)
 unfold z4j z60
 rw [t0, Option.bind_some, tu1, List.nil_append, t2 _ (by simp; omega), Option.bind_some, tu1, t4 _ (by simp; omega), Option.bind_some, tu1, t6 _ (by simp; omega), Option.bind_some, tu1, t8 _ (by simp; omega), Option.bind_some, tu1, t10 _ (by simp; omega), Option.bind_some, tu1]
end Go.Am.Tryd
/- Plain law: which line of a network is a device's. -/
namespace Go.Am.Tryd
open Go Go.Am Go.Proofs
variable {K : Nat} {n : Network}
def ub (s : zAd) : List UInt8 := s.data.toList
theorem zey (a b : zAd) : ub (a ++ b) = ub a ++ ub b := by unfold ub; rw [ByteArray.data_append, Array.toList_append]
theorem zdd (a : zAd) : (ub a).length = a.size := by unfold ub; rw [Array.length_toList]; rfl
theorem zjt (a : zAd) (j : Nat) : ub (a.extract 0 j) = (ub a).take j := by
 unfold ub
 rw [ByteArray.data_extract, Array.toList_extract]
 simp [List.extract]
theorem zju {a b : zAd} (h : ub a = ub b) : a = b := by
 cases a; cases b
 unfold ub at h
 simp only at h
 rw [Array.toList_inj.1 h]
theorem zml (l : List UInt8) : ub ⟨l.toArray⟩ = l := by simp [ub]
theorem z9w (w cur rest : List UInt8) (hw : ∀ b ∈ w, Lib.isSp b = false) (hne : cur ++ w ≠ []) : Lib.fieldsGo cur (w ++ 32 :: rest) = (cur ++ w) :: Lib.fieldsGo [] rest := by
 induction w generalizing cur with
 | nil =>
  rw [List.append_nil] at hne ⊢
  exact Lib.fieldsGo_end cur 32 rest rfl hne
 | cons b w ih =>
  rw [List.cons_append, Lib.fieldsGo_more _ _ _ (hw b (by simp)), ih (cur ++ [b]) (fun c hc => hw c (by simp [hc])) (by simp), List.append_assoc]
  rfl
def zm9 (s : zAd) : Prop := ub s ≠ [] /\ ∀ b ∈ ub s, Lib.isSp b = false
structure DevL (nm line : zAd) : Prop where
 parts : ∃ k r : List UInt8, ub line = k ++ 32 :: (ub nm ++ 32 :: r) /\ k ≠ [] /\ (∀ b ∈ k, Lib.isSp b = false) /\ k.head? ≠ some 110
 asc : ∀ b ∈ ub line, b.toNat < 128
 sz : line.size < 4294967281
 word : zm9 nm
theorem zde (k m r : List UInt8) : Lib.contains (k ++ (m ++ r)) m = true := by
 unfold Lib.contains
 rcases Lib.index_spec (k ++ (m ++ r)) m with ⟨h1, h2⟩ | ⟨i, h1, _⟩
 ·have := h2 k.length (by simp)
  unfold Lib.occAt at this
  rw [List.drop_left] at this
  have hp : m.isPrefixOf (m ++ r) = true := List.isPrefixOf_iff_prefix.2 (List.prefix_append _ _)
  rw [hp] at this; cases this
 ·rw [h1]; simp
theorem zkw (K : Nat) (s : zAd) : z3d K s (⟨#[110, 111, 100, 101, 32]⟩ : zAd) = some (decide ((ub s).take 5 = [110, 111, 100, 101, 32])) := by
 have z : (⟨#[110, 111, 100, 101, 32]⟩ : zAd).size = 5 := rfl
 have zu : ub (⟨#[110, 111, 100, 101, 32]⟩ : zAd) = [110, 111, 100, 101, 32] := rfl
 have hu := zdd s
 unfold z3d z1t
 rw [z]
 by_cases h : 5 <= s.size
 ·have h1 : decide ((s.size : Int) >= ((5 : Nat) : Int)) = true := by simp; omega
  have h2 : ssl s 0 ((5 : Nat) : Int) = some (s.extract 0 5) := by
   unfold ssl
   rw [if_pos (by omega)]; rfl
  rw [h1, if_pos rfl, h2]
  simp only [Option.bind_some, tu1, Option.some.injEq]
  cases hq : sEq (s.extract 0 5) (⟨#[110, 111, 100, 101, 32]⟩ : zAd) with
  | true =>
   rw [z6a] at hq
   have h3 := congrArg ub hq
   rw [zjt, zu] at h3
   simp [h3]
  | false =>
   symm; rw [decide_eq_false_iff_not]
   intro h3
   have : s.extract 0 5 = (⟨#[110, 111, 100, 101, 32]⟩ : zAd) := zju (by rw [zjt, zu]; exact h3)
   rw [z6a.2 this] at hq; cases hq
 ·have h1 : decide ((s.size : Int) >= ((5 : Nat) : Int)) = false := by simp; omega
  rw [h1]
  simp only [Bool.false_eq_true, if_false, Option.bind_some, tu1, Option.some.injEq]
  symm; rw [decide_eq_false_iff_not]
  intro h3
  have := congrArg List.length h3
  rw [List.length_take] at this
  simp at this
  omega
theorem zkx (K : Nat) (s name : zAd) : z0g K (nodL s) name = some false := by
 unfold z0g
 rw [zkw]
 have : (ub (nodL s)).take 5 = [110, 111, 100, 101, 32] := by unfold nodL; rw [zey]; rfl
 rw [this]
 simp [tu1]
theorem zmm (K : Nat) {nm line name : zAd} (h : DevL nm line) (hn : name.size <= 1048576) : z0g K line name = some (sEq nm name) := by
 obtain ⟨⟨k, r, e, k1, k2, k3⟩, ha, hz, w1, w2⟩ := h
 unfold z0g
 have hp : (decide ((ub line).take 5 = [110, 111, 100, 101, 32])) = false := by
  rw [decide_eq_false_iff_not]
  intro h5
  cases k with
  | nil => exact k1 rfl
  | cons b k =>
   rw [e] at h5
   simp at h5 k3
   exact k3 h5.1
 have z : (⟨#[32]⟩ : zAd).size = 1 := rfl
 have zu : ub (⟨#[32]⟩ : zAd) = [32] := rfl
 rw [zkw, hp]
 simp only [Option.bind_some, Bool.not_false, if_true, z]
 rw [if_pos (by omega), if_pos (by rw [ByteArray.size_append, z]; omega)]
 unfold z4m
 rw [if_pos hz]
 simp only [Option.bind_some]
 have hf : z4f K line = some ((Lib.fields line.data.toList).map fun l => ⟨l.toArray⟩) := by
  have hA : zjl line = true := by
   unfold zjl
   rw [List.all_eq_true]
   intro b hb
   simpa using ha b hb
  unfold z4f
  rw [if_pos ⟨hz, hA⟩]
 have hfl : (Lib.fields line.data.toList) = k :: ub nm :: Lib.fieldsGo [] r := by
  show Lib.fieldsGo [] (ub line) = _
  rw [e, z9w k [] _ k2 (by simpa using k1), z9w (ub nm) [] _ w2 (by simpa using w1)]
  rfl
 have hix : idx ((Lib.fields line.data.toList).map fun l => (⟨l.toArray⟩ : zAd)) 1 = some nm := by
  rw [hfl]
  show some (⟨(ub nm).toArray⟩ : zAd) = some nm
  exact congrArg some (zju (zml _))
 rw [hf]
 simp only [Option.bind_some, hix, tu1]
 by_cases he : nm = name
 ·subst he
  have hc : Lib.contains line.data.toList ((⟨#[32]⟩ : zAd) ++ nm ++ (⟨#[32]⟩ : zAd)).data.toList = true := by
   show Lib.contains (ub line) (ub _) = true
   rw [zey, zey, zu, e]
   have := zde k ([32] ++ ub nm ++ [32]) r
   simpa using this
  rw [hc]; simp
 ·have hs : sEq nm name = false := by
   cases hq : sEq nm name with
   | false => rfl
   | true => exact absurd (z6a.1 hq) he
  rw [hs]
  split <;> rfl
end Go.Am.Tryd
/- Plain law: a valid network's devices have lines by which they are known. -/
namespace Go.Am.Tryd
open Go Go.Am Go.Proofs
variable {K : Nat} {n : Network}
theorem zdf {α S E : Type} (c : α -> S -> E ⊕ S) : ∀ (xs : List α) (s s' : S), runS c xs s = .inr s' -> ∀ x ∈ xs, ∃ s1 s2, c x s1 = .inr s2
 | [], _, _, _, x, hx => by simp at hx
 | y :: xs, s, s', h, x, hx => by
  simp only [runS] at h
  cases hc : c y s with
  | inl e => rw [hc] at h; cases h
  | inr s1 =>
   rw [hc] at h
   rcases List.mem_cons.1 hx with rfl | hx
   ·exact ⟨s, s1, hc⟩
   ·exact zdf c xs s1 s' h x hx
theorem zdg {α S E : Type} (c : α -> S -> E ⊕ S) (P : E -> Prop) (hP : ∀ x s e, c x s = .inl e -> P e) : ∀ (xs : List α) (s : S) (e : E), runS c xs s = .inl e -> P e
 | [], _, _, h => by cases h
 | y :: xs, s, e, h => by
  simp only [runS] at h
  cases hc : c y s with
  | inl e' => rw [hc] at h; cases h; exact hP y s _ hc
  | inr s1 => rw [hc] at h; exact zdg c P hP xs s1 e h
theorem zjv (n : Network) (x : Item) (m : List zAd) (e : Int) (h : chkI n x m = .inl e) : e ≠ 0 := by
 unfold chkI at h
 split at h
 ·rename_i h1; cases h; simpa using h1
 ·split at h
  ·cases h; decide
  ·split at h
   ·cases h; decide
   ·cases h
theorem zhx (n : Network) (x : Item) (m m' : List zAd) (h : chkI n x m = .inr m') : x.nodes.all (hasS n.Nodes) = true := by
 unfold chkI at h
 split at h
 ·cases h
 ·rename_i h1
  unfold devS at h1
  split at h1
  ·rename_i h2; exact absurd h2 h1
  ·unfold zkt at h1
   split at h1
   ·rename_i h3; exact h3
   ·simp at h1
theorem ze4 {m : List zAd} {s : zAd} (h : ¬ ((addS m s).1 != 0) = true) : za6 s = true := by
 unfold addS at h
 cases hn : za6 s with
 | true => rfl
 | false => rw [hn] at h; exact absurd rfl h
theorem zhy (n : Network) (x : Item) (m m' : List zAd) (h : chkI n x m = .inr m') : za6 x.name = true := by
 unfold chkI at h
 split at h
 ·cases h
 ·rename_i h1
  unfold devS at h1
  split at h1
  ·rename_i h2; exact absurd h2 h1
  ·rename_i h2; exact ze4 h2
structure NOk (n : Network) : Prop where
 big : n.Nodes.length <= 24 /\ n.Switches.length <= 32 /\ n.Branches.length <= 24 /\ n.Gens.length <= 10 /\ n.Loads.length <= 12 /\ n.Stores.length <= 4
 nod : ∀ s ∈ n.Nodes, za6 s = true
 dev : ∀ x ∈ z5m n, za6 x.name = true /\ ∀ w ∈ x.nodes, za6 w = true
theorem zez (h : netS n = 0) : NOk n := by
 unfold netS at h
 split at h
 ·omega
 ·rename_i hb
  have hb' : n.Nodes.length <= 24 /\ n.Switches.length <= 32 /\ n.Branches.length <= 24 /\ n.Gens.length <= 10 /\ n.Loads.length <= 12 /\ n.Stores.length <= 4 := by
   unfold bigS at hb; simp at hb; omega
  cases r0 : runS chkN n.Nodes [] with
  | inl e =>
   rw [r0] at h
   have : e ≠ 0 := zdg chkN (fun e => e ≠ 0) (fun x s e he => by
    unfold chkN at he
    split at he
    ·rename_i h1; cases he; simpa using h1
    ·cases he) _ _ _ r0
   exact absurd h this
  | inr m =>
   have hnod : ∀ s ∈ n.Nodes, za6 s = true := fun s hs => by
    obtain ⟨s1, s2, h2⟩ := zdf chkN _ _ _ r0 s hs
    unfold chkN at h2
    split at h2
    ·cases h2
    ·rename_i h3; exact ze4 h3
   rw [r0] at h
   simp only [Sum.elim_inr] at h
   cases r1 : runS (chkI n) (z5m n) m with
   | inl e =>
    rw [r1] at h
    exact absurd h (zdg (chkI n) (fun e => e ≠ 0) (zjv n) _ _ _ r1)
   | inr m' =>
    refine ⟨hb', hnod, fun x hx => ?_⟩
    obtain ⟨s1, s2, h2⟩ := zdf (chkI n) _ _ _ r1 x hx
    refine ⟨zhy n x s1 s2 h2, fun w hw => ?_⟩
    have h3 := List.all_eq_true.1 (zhx n x s1 s2 h2) w hw
    unfold hasS at h3
    rw [List.any_eq_true] at h3
    obtain ⟨y, hy, he⟩ := h3
    rw [z6a] at he
    rw [he]; exact hnod y hy
theorem zcj {α : Type} {xs : List α} {c : α} (h : c ∈ xs) : ∃ i, (c, i) ∈ xs.zipIdx := by
 obtain ⟨i, hi, rfl⟩ := List.mem_iff_getElem.1 h
 exact ⟨i, List.mem_iff_getElem.2 ⟨i, by simpa using hi, by simp⟩⟩
theorem zgo {s : zAd} {b : UInt8} (h : b ∈ ub s) : (b.toNat : Int) ∈ z1u s := by
 unfold z1u; exact List.mem_map.2 ⟨b, h, rfl⟩
theorem z70 {s : zAd} (h : za6 s = true) : s.size ≠ 0 /\ s.size <= 8 /\ ∀ b ∈ ub s, 48 <= b.toNat /\ b.toNat <= 90 := by
 unfold za6 at h
 simp only [Bool.and_eq_true, Bool.not_eq_true', beq_eq_false_iff_ne, ne_eq, decide_eq_false_iff_not, List.all_eq_true] at h
 obtain ⟨⟨h1, h2⟩, h3⟩ := h
 refine ⟨h1, by omega, fun b hb => ?_⟩
 obtain ⟨i, hi⟩ := zcj (zgo hb)
 have h4 := h3 _ hi
 unfold chP at h4
 simp at h4
 omega
theorem zm2 {b : UInt8} (h1 : 33 <= b.toNat) (h2 : b.toNat <= 200) : Lib.isSp b = false := by
 have hn : ∀ c : UInt8, c.toNat <= 32 -> b ≠ c := fun c hc e => by subst e; omega
 unfold Lib.isSp
 simp [hn 9 (by decide), hn 10 (by decide), hn 11 (by decide), hn 12 (by decide), hn 13 (by decide), hn 32 (by decide)]
theorem ze5 {s : zAd} (h : za6 s = true) : zm9 s := by
 obtain ⟨h1, _, h3⟩ := z70 h
 exact ⟨fun h => h1 (by rw [<- zdd, h]; rfl), fun b hb => by have := h3 b hb; exact zm2 (by omega) (by omega)⟩
def asciiU (l : List UInt8) : Prop := ∀ b ∈ l, b.toNat < 128
theorem asciiU.app {a b : List UInt8} (h : asciiU a) (k : asciiU b) : asciiU (a ++ b) := fun x hx => by
 rcases List.mem_append.1 hx with hx | hx
 ·exact h x hx
 ·exact k x hx
theorem zc0 {s : zAd} (h : za6 s = true) : asciiU (ub s) := fun b hb => by have := (z70 h).2.2 b hb; omega
theorem zky {s : zAd} (h : (z1u s).all numC = true) : asciiU (ub s) := fun b hb => by
 have := List.all_eq_true.1 h _ (zgo hb)
 unfold numC at this
 simp at this
 omega
theorem zhz : asciiU [32] := by intro b hb; simp at hb; subst hb; decide
theorem zjw (s0 : zAd) : ∀ ws : List zAd, ub (catW s0 ws) = ub s0 ++ (ws.map fun w => ub w ++ [32]).flatten
 | [] => by simp [catW]
 | w :: ws => by
  have ih := zjw (s0 ++ (w ++ (⟨#[32]⟩ : zAd))) ws
  have zu : ub (⟨#[32]⟩ : zAd) = [32] := rfl
  show ub (catW (s0 ++ (w ++ (⟨#[32]⟩ : zAd))) ws) = _
  rw [ih, zey, zey, zu]
  simp
theorem zgp : ∀ ws : List zAd, (∀ w ∈ ws, asciiU (ub w)) -> asciiU (ws.map fun w => ub w ++ [32]).flatten
 | [], _ => fun b hb => by simp at hb
 | w :: ws, h => by
  rw [List.map_cons, List.flatten_cons]
  exact ((h w (by simp)).app zhz).app (zgp ws fun v hv => h v (by simp [hv]))
theorem ze6 : ∀ ws : List zAd, (∀ w ∈ ws, w.size <= 30) -> (ws.map fun w => ub w ++ [32]).flatten.length <= ws.length * 31
 | [], _ => by simp
 | w :: ws, h => by
  have ih := ze6 ws fun v hv => h v (by simp [hv])
  have h1 := h w (by simp)
  rw [List.map_cons, List.flatten_cons, List.length_append, List.length_append, zdd, show (w :: ws).length = ws.length + 1 from rfl, Nat.add_mul]
  have : ([32] : List UInt8).length = 1 := rfl
  omega
theorem ze7 (hK : 100 < K) {kb nm w : zAd} {ws : List zAd} {v : List Int} (hk : ub kb ≠ [] /\ (∀ b ∈ ub kb, Lib.isSp b = false) /\ (ub kb).head? ≠ some 110 /\ asciiU (ub kb) /\ kb.size <= 30)
  (hn : za6 nm = true) (hw : ∀ x ∈ w :: ws, za6 x = true) (hv : ∀ x ∈ v, z57 .i64 x = true) (hl : ws.length <= 5 /\ v.length <= 10) : DevL nm (rowT K (kb :: nm :: w :: ws) v) := by
 obtain ⟨k1, k2, k3, k4, k5⟩ := hk
 have hall : ub (catW (catW ⟨#[]⟩ (kb :: nm :: w :: ws)) (v.map (decS K))) = (((kb :: nm :: w :: ws) ++ v.map (decS K)).map fun w => ub w ++ [32]).flatten := by
  rw [zjw, zjw, List.map_append, List.flatten_append]; rfl
 have hasc : ∀ x ∈ (kb :: nm :: w :: ws) ++ v.map (decS K), asciiU (ub x) /\ x.size <= 30 := fun x hx => by
  rcases List.mem_append.1 hx with hx | hx
  ·rcases List.mem_cons.1 hx with rfl | hx
   ·exact ⟨k4, k5⟩
   ·have hx' : za6 x = true := by
     rcases List.mem_cons.1 hx with rfl | hx
     ·exact hn
     ·exact hw x hx
    exact ⟨zc0 hx', by have := (z70 hx').2.1; omega⟩
  ·obtain ⟨y, hy, rfl⟩ := List.mem_map.1 hx
   obtain ⟨_, d2, _, d4⟩ := zm8 (hv y hy) hK
   exact ⟨zky d2, by omega⟩
 have hub : ub (rowT K (kb :: nm :: w :: ws) v) = ((((kb :: nm :: w :: ws) ++ v.map (decS K)).map fun w => ub w ++ [32]).flatten).dropLast := by
  unfold rowT
  rw [zjt, <- zdd, hall, List.dropLast_eq_take]
 have hlen := ze6 _ fun x hx => (hasc x hx).2
 have hfa := zgp _ fun x hx => (hasc x hx).1
 refine ⟨⟨ub kb, (ub w ++ 32 :: ((ws ++ v.map (decS K)).map fun w => ub w ++ [32]).flatten).dropLast, ?_, k1, k2, k3⟩, fun b hb => hfa b ?_, ?_, ze5 hn⟩
 ·rw [hub]
  simp only [List.cons_append, List.map_cons, List.flatten_cons, List.append_assoc, List.nil_append]
  rw [List.dropLast_append_of_ne_nil (by simp), List.dropLast_cons_of_ne_nil (by simp), List.dropLast_append_of_ne_nil (by simp), List.dropLast_cons_of_ne_nil (by simp)]
 ·rw [hub] at hb; exact (List.dropLast_sublist _).mem hb
 ·have h1 := zdd (rowT K (kb :: nm :: w :: ws) v)
  rw [hub, List.length_dropLast] at h1
  simp only [List.length_append, List.length_cons, List.length_map] at hlen
  have : (ws.length + 1 + 1 + 1 + v.length) * 31 <= 18 * 31 := Nat.mul_le_mul_right _ (by omega)
  omega
theorem zm3 {x : Switch} (h1 : za6 x.Name = true) (h2 : za6 x.A = true) (h3 : za6 x.B = true) : DevL x.Name (swL x) := by
 have n1 := (z70 h1).2.1
 have n2 := (z70 h2).2.1
 have n3 := (z70 h3).2.1
 have zu : ub (⟨#[32]⟩ : zAd) = [32] := rfl
 obtain ⟨k, s, e, k1, k2, k3, k4, s4, hl⟩ : ∃ k s : List UInt8, ub (swL x) = k ++ 32 :: (ub x.Name ++ 32 :: (ub x.A ++ 32 :: (ub x.B ++ s))) /\ k ≠ [] /\ (∀ b ∈ k, Lib.isSp b = false) /\ k.head? ≠ some 110 /\ asciiU k /\ asciiU s /\ k.length + s.length <= 20 := by
  unfold swL
  cases x.Breaker <;> cases x.Open <;> simp only [if_true, Bool.false_eq_true, if_false, zey, zu]
  ·exact ⟨[115, 119, 105, 116, 99, 104], [32, 99, 108, 111, 115, 101, 100], by simp [ub], by decide, by decide, by decide, by unfold asciiU; decide, by unfold asciiU; decide, by decide⟩
  ·exact ⟨[115, 119, 105, 116, 99, 104], [32, 111, 112, 101, 110], by simp [ub], by decide, by decide, by decide, by unfold asciiU; decide, by unfold asciiU; decide, by decide⟩
  ·exact ⟨[98, 114, 101, 97, 107, 101, 114], [32, 99, 108, 111, 115, 101, 100], by simp [ub], by decide, by decide, by decide, by unfold asciiU; decide, by unfold asciiU; decide, by decide⟩
  ·exact ⟨[98, 114, 101, 97, 107, 101, 114], [32, 111, 112, 101, 110], by simp [ub], by decide, by decide, by decide, by unfold asciiU; decide, by unfold asciiU; decide, by decide⟩
 refine ⟨⟨k, _, e, k1, k2, k3⟩, ?_, ?_, ze5 h1⟩
 ·rw [e]
  have q1 := zc0 h1
  have q2 := zc0 h2
  have q3 := zc0 h3
  exact k4.app (zhz.app (q1.app (zhz.app (q2.app (zhz.app (q3.app s4))))))
 ·have := zdd (swL x)
  rw [e] at this
  simp [zdd] at this
  omega
theorem zib (N : NOk n) {x : Switch} (h : x ∈ n.Switches) : DevL x.Name (swL x) := by
 have := N.dev (iSw x) (by unfold z5m; simp; exact .inl ⟨x, h, rfl⟩)
 exact zm3 this.1 (this.2 x.A (by simp [iSw])) (this.2 x.B (by simp [iSw]))
theorem zic (N : NOk n) (L : LOk n) (hK : 100 < K) {x : Branch} (h : x ∈ n.Branches) : DevL x.Name (brL K x) := by
 have := N.dev (iBr x) (by unfold z5m; simp; exact .inr (.inl ⟨x, h, rfl⟩))
 exact ze7 hK ⟨by decide, by decide, by decide, by unfold asciiU; decide, by decide⟩ this.1 (by simpa [iBr] using this.2) (L.br x h).2 (by simp)
theorem zid (N : NOk n) (L : LOk n) (hK : 100 < K) {x : Gen} (h : x ∈ n.Gens) : DevL x.Name (geL K x) := by
 have := N.dev (iGe x) (by unfold z5m; simp; exact .inr (.inr (.inl ⟨x, h, rfl⟩)))
 exact ze7 hK ⟨by decide, by decide, by decide, by unfold asciiU; decide, by decide⟩ this.1 (by simpa [iGe] using this.2) (L.ge x h).2 (by simp)
theorem zie (N : NOk n) (L : LOk n) (hK : 100 < K) {x : Load_} (h : x ∈ n.Loads) : DevL x.Name (loL K x) := by
 have := N.dev (iLo x) (by unfold z5m; simp; exact .inr (.inr (.inr (.inl ⟨x, h, rfl⟩))))
 exact ze7 hK ⟨by decide, by decide, by decide, by unfold asciiU; decide, by decide⟩ this.1 (by simpa [iLo] using this.2) (L.lo x h).2 (by simp)
theorem zif (N : NOk n) (L : LOk n) (hK : 100 < K) {x : Store} (h : x ∈ n.Stores) : DevL x.Name (stL K x) := by
 have := N.dev (iSt x) (by unfold z5m; simp; exact .inr (.inr (.inr (.inr ⟨x, h, rfl⟩))))
 exact ze7 hK ⟨by decide, by decide, by decide, by unfold asciiU; decide, by decide⟩ this.1 (by simpa [iSt] using this.2) (L.st x h).2 (by simp)
end Go.Am.Tryd
/- Plain law: what a name denotes, by both sides. -/
namespace Go.Am.Tryd
open Go Go.Am Go.Proofs
variable {K : Nat} {n : Network}
def ixS {α : Type} (P : α -> Bool) : List α -> Int
 | [] => -1
 | x :: l => if P x then 0 else if ixS P l < 0 then -1 else ixS P l + 1
theorem z5t {α : Type} (P : α -> Bool) : ∀ l : List α, -1 <= ixS P l /\ ixS P l < l.length
 | [] => by simp [ixS]
 | x :: l => by
  have := z5t P l
  simp only [ixS, List.length_cons]
  split
  ·omega
  ·split <;> omega
theorem za0 {α β : Type} (P : β -> Bool) (f : α -> β) : ∀ l : List α, ixS P (l.map f) = ixS (fun x => P (f x)) l
 | [] => rfl
 | x :: l => by simp only [List.map_cons, ixS, za0 P f l]
theorem z8w {α : Type} {P Q : α -> Bool} : ∀ l : List α, (∀ x ∈ l, P x = Q x) -> ixS P l = ixS Q l
 | [], _ => rfl
 | x :: l, h => by simp only [ixS, h x (by simp), z8w l fun y hy => h y (by simp [hy])]
theorem zkz {α : Type} (l : List α) (P : α -> Bool) (f : Nat -> Int -> Option (Int ⊕ Unit))
  (h : ∀ k (i : Nat) x, l[i]? = some x -> f (k + 1) i = if P x then some (.inl (i : Int)) else f k ((i + 1 : Nat) : Int)) (h0 : ∀ k, f (k + 1) l.length = some (.inr ())) : ∀ d k (i : Nat), l.length - i = d -> i <= l.length -> d < k -> f k i = some (if ixS P (l.drop i) < 0 then .inr () else .inl (i + ixS P (l.drop i))) := by
 intro d
 induction d with
 | zero =>
  intro k i hd hi hk
  obtain ⟨k, rfl⟩ : ∃ m, k = m + 1 := ⟨k - 1, by omega⟩
  obtain rfl : i = l.length := by omega
  rw [h0, List.drop_length]; rfl
 | succ d ih =>
  intro k i hd hi hk
  obtain ⟨k, rfl⟩ : ∃ m, k = m + 1 := ⟨k - 1, by omega⟩
  have hx : l[i]? = some l[i] := zAh (by omega)
  rw [h k i _ hx, List.drop_eq_getElem_cons (show i < l.length by omega), ih k (i + 1) (by omega) (by omega) (by omega)]
  have hr := z5t P (l.drop (i + 1))
  simp only [ixS]
  by_cases hq : P l[i] = true
  ·simp [hq]
  ·simp only [hq, Bool.false_eq_true, if_false]
   by_cases h3 : ixS P (l.drop (i + 1)) < 0
   ·simp [h3]
   ·have h4 : ¬ ixS P (l.drop (i + 1)) + 1 < 0 := by omega
    rw [if_neg h3, if_neg h3, if_neg h4]
    congr 2
    omega
theorem zck {α : Type} (l : List α) (P : α -> Bool) (f : Nat -> Int -> Option (Int ⊕ Unit)) (hK : l.length < K)
  (h : ∀ k (i : Nat) x, l[i]? = some x -> f (k + 1) i = if P x then some (.inl (i : Int)) else f k ((i + 1 : Nat) : Int)) (h0 : ∀ k, f (k + 1) l.length = some (.inr ())) :
  (z66 (f K 0) (tu1 fun a45 => some a45) (tu0 (some (-1))) : Option Int) = some (ixS P l) := by
 have := zkz l P f h h0 l.length K 0 (by omega) (by omega) hK
 rw [List.drop_zero] at this
 have hr := z5t P l
 rw [show ((0 : Nat) : Int) = 0 from rfl] at this
 rw [this]
 by_cases h3 : ixS P l < 0
 ·rw [if_pos h3]; simp [z66, tu0]; omega
 ·rw [if_neg h3]; simp [z66, tu1]
theorem zl0 (l : List zAd) (s : zAd) (hl : l.length <= 1048576) (hK : l.length < K) : z7c K l s = some (ixS (fun x => sEq x s) l) := by
 unfold z7c
 exact zck l _ (fun k i => z2y K l s k i) hK (fun k i x hx => by
  have hi := z8z hx
  show z2y K l s (k + 1) i = _
  rw [z2y, z48 hi]
  simp only [if_true, z24 hx, Option.bind_some, kw1 hi (by omega)]) (fun k => by
  show z2y K l s (k + 1) l.length = _
  rw [z2y, z2j (Nat.le_refl _)]; simp)
theorem zig (l : List zAd) (s : zAd) (hl : l.length <= 1048576) (hK : l.length < K) : z0l K l s = some (ixS (fun x => sEq x s) l) := by
 unfold z0l
 exact zck l _ (fun k i => z08 K l s k i) hK (fun k i x hx => by
  have hi := z8z hx
  show z08 K l s (k + 1) i = _
  rw [z08, z48 hi]
  simp only [if_true, z24 hx, Option.bind_some, kw1 hi (by omega), zga s x]) (fun k => by
  show z08 K l s (k + 1) l.length = _
  rw [z08, z2j (Nat.le_refl _)]; simp)
theorem ixf1 (l : List Switch) (s : zAd) (hl : l.length <= 1048576) (hK : l.length < K) : z0m K l (fun x => z2t K x s) = some (ixS (fun x => sEq x.Name s) l) := by
 unfold z0m
 exact zck l _ (fun k i => z04 K l (fun x => z2t K x s) k i) hK (fun k i x hx => by
  have hi := z8z hx
  show z04 K l _ (k + 1) i = _
  rw [z04, z48 hi]
  simp only [if_true, z24 hx, Option.bind_some, z2t, kw1 hi (by omega)]) (fun k => by
  show z04 K l _ (k + 1) l.length = _
  rw [z04, z2j (Nat.le_refl _)]; simp)
theorem ixf2 (l : List Branch) (s : zAd) (hl : l.length <= 1048576) (hK : l.length < K) : z0n K l (fun x => z2u K x s) = some (ixS (fun x => sEq x.Name s) l) := by
 unfold z0n
 exact zck l _ (fun k i => z05 K l (fun x => z2u K x s) k i) hK (fun k i x hx => by
  have hi := z8z hx
  show z05 K l _ (k + 1) i = _
  rw [z05, z48 hi]
  simp only [if_true, z24 hx, Option.bind_some, z2u, kw1 hi (by omega)]) (fun k => by
  show z05 K l _ (k + 1) l.length = _
  rw [z05, z2j (Nat.le_refl _)]; simp)
theorem ixf3 (l : List Gen) (s : zAd) (hl : l.length <= 1048576) (hK : l.length < K) : z16 K l (fun x => z2v K x s) = some (ixS (fun x => sEq x.Name s) l) := by
 unfold z16
 exact zck l _ (fun k i => z0b K l (fun x => z2v K x s) k i) hK (fun k i x hx => by
  have hi := z8z hx
  show z0b K l _ (k + 1) i = _
  rw [z0b, z48 hi]
  simp only [if_true, z24 hx, Option.bind_some, z2v, kw1 hi (by omega)]) (fun k => by
  show z0b K l _ (k + 1) l.length = _
  rw [z0b, z2j (Nat.le_refl _)]; simp)
theorem ixf4 (l : List Load_) (s : zAd) (hl : l.length <= 1048576) (hK : l.length < K) : z0y K l (fun x => z2w K x s) = some (ixS (fun x => sEq x.Name s) l) := by
 unfold z0y
 exact zck l _ (fun k i => z09 K l (fun x => z2w K x s) k i) hK (fun k i x hx => by
  have hi := z8z hx
  show z09 K l _ (k + 1) i = _
  rw [z09, z48 hi]
  simp only [if_true, z24 hx, Option.bind_some, z2w, kw1 hi (by omega)]) (fun k => by
  show z09 K l _ (k + 1) l.length = _
  rw [z09, z2j (Nat.le_refl _)]; simp)
theorem ixf5 (l : List Store) (s : zAd) (hl : l.length <= 1048576) (hK : l.length < K) : z0s K l (fun x => z2x K x s) = some (ixS (fun x => sEq x.Name s) l) := by
 unfold z0s
 exact zck l _ (fun k i => z06 K l (fun x => z2x K x s) k i) hK (fun k i x hx => by
  have hi := z8z hx
  show z06 K l _ (k + 1) i = _
  rw [z06, z48 hi]
  simp only [if_true, z24 hx, Option.bind_some, z2x, kw1 hi (by omega)]) (fun k => by
  show z06 K l _ (k + 1) l.length = _
  rw [z06, z2j (Nat.le_refl _)]; simp)
def sF (s : zAd) : List zAd -> List (List zAd) -> Nat -> Nat -> Option (Nat × Nat)
 | [], [], _, _ => none
 | [], g :: rest, k, _ => sF s g rest (k + 1) 0
 | x :: cur, rest, k, l => if sEq x s then some (k, l) else sF s cur rest k (l + 1)
termination_by cur rest => (rest.length, cur.length)
theorem zke (s : zAd) (rest : List (List zAd)) (k : Nat) : ∀ (cur : List zAd) (l : Nat), sF s cur rest k l = if 0 <= ixS (fun x => sEq x s) cur then some (k, l + (ixS (fun x => sEq x s) cur).toNat) else sF s [] rest k 0
 | [], l => by
  cases rest with
  | nil => simp [sF, ixS]
  | cons g rest => simp only [sF, ixS]; rfl
 | x :: cur, l => by
  have ih := zke s rest k cur (l + 1)
  have hr := z5t (fun x => sEq x s) cur
  rw [sF, ih]
  simp only [ixS]
  by_cases hq : sEq x s = true
  ·simp [hq]
  ·simp only [hq, Bool.false_eq_true, if_false]
   by_cases h3 : ixS (fun x => sEq x s) cur < 0
   ·rw [if_pos h3, if_neg (by omega), if_neg (by omega)]
   ·rw [if_neg h3, if_pos (by omega), if_pos (by omega)]
    congr 2
    omega
theorem zih (s : zAd) : ∀ (rest : List (List zAd)) (k l : Nat), rest.flatten = [] -> sF s [] rest k l = none
 | [], k, l, _ => by simp [sF]
 | g :: rest, k, l, h => by
  rw [List.flatten_cons, List.append_eq_nil_iff] at h
  rw [sF, h.1]
  exact zih s rest _ _ h.2
def segs (n : Network) : List (List zAd) := [n.Switches.map (·.Name), n.Branches.map (·.Name), n.Gens.map (·.Name), n.Loads.map (·.Name), n.Stores.map (·.Name)]
def zf0 (k : Nat) : zAd := [(⟨#[115, 119, 105, 116, 99, 104]⟩ : zAd), (⟨#[98, 114, 97, 110, 99, 104]⟩ : zAd), (⟨#[103, 101, 110]⟩ : zAd), (⟨#[108, 111, 97, 100]⟩ : zAd), (⟨#[115, 116, 111, 114, 101]⟩ : zAd)].getD k ⟨#[]⟩
theorem zgq (n : Network) (k : Nat) {g : List zAd} (h : (segs n)[k]? = some g) : idx [(List.length n.Switches : Int), (List.length n.Branches : Int), (List.length n.Gens : Int), (List.length n.Loads : Int), (List.length n.Stores : Int)] (k : Int) = some (g.length : Int) /\ k < 5 := by
 have hk : k < 5 := (zAi h).1
 refine ⟨z24 ?_, hk⟩
 have : k = 0 \/ k = 1 \/ k = 2 \/ k = 3 \/ k = 4 := by omega
 rcases this with rfl | rfl | rfl | rfl | rfl <;> (simp [segs] at h; subst h; simp)
theorem zjx (s : zAd) : ∀ (rest : List (List zAd)) (cur g : List zAd) (k l f : Nat), (segs n)[k]? = some g -> g.length = l + cur.length -> g.length <= 1000 -> rest = (segs n).drop (k + 1) -> cur ++ rest.flatten ≠ [] -> rest.length < f ->
  (∀ g ∈ rest, g.length <= 1000) -> ∃ (k' l' : Nat) (y : zAd) (cur' : List zAd) (rest' : List (List zAd)) (g' : List zAd), z4l K n f (k : Int) (l : Int) = some ((k' : Int), (l' : Int)) /\ sF s cur rest k l = sF s (y :: cur') rest' k' l' /\ cur ++ rest.flatten = (y :: cur') ++ rest'.flatten ∧
   (segs n)[k']? = some g' /\ g'.length = l' + (cur'.length + 1) /\ g'.length <= 1000 /\ rest' = (segs n).drop (k' + 1) /\ (∀ g ∈ rest', g.length <= 1000) := by
 intro rest
 induction rest with
 | nil =>
  intro cur g k l f hg hl hgl hr hne hf hs
  obtain ⟨f, rfl⟩ : ∃ j, f = j + 1 := ⟨f - 1, by omega⟩
  obtain ⟨hx, hk⟩ := zgq n k hg
  cases cur with
  | nil => simp at hne
  | cons y cur =>
   rw [List.length_cons] at hl
   refine ⟨k, l, y, cur, [], g, ?_, rfl, rfl, hg, hl, hgl, hr, hs⟩
   rw [z4l, hx]
   have : ((l : Int) == (g.length : Int)) = false := by simp; omega
   simp only [Option.bind_some, this, Bool.false_eq_true, if_false]
 | cons q rest ih =>
  intro cur g k l f hg hl hgl hr hne hf hs
  obtain ⟨f, rfl⟩ : ∃ j, f = j + 1 := ⟨f - 1, by omega⟩
  obtain ⟨hx, hk⟩ := zgq n k hg
  cases cur with
  | cons y cur =>
   rw [List.length_cons] at hl
   refine ⟨k, l, y, cur, q :: rest, g, ?_, rfl, rfl, hg, hl, hgl, hr, hs⟩
   rw [z4l, hx]
   have : ((l : Int) == (g.length : Int)) = false := by simp; omega
   simp only [Option.bind_some, this, Bool.false_eq_true, if_false]
  | nil =>
   have hq : (segs n)[k + 1]? = some q := by
    have := congrArg (·[0]?) hr
    simpa using this.symm
   have hr2 : rest = (segs n).drop (k + 1 + 1) := by
    have := congrArg (List.drop 1) hr
    simpa [List.drop_drop] using this
   have hql := hs q (by simp)
   obtain ⟨k', l', y, cur', rest', g', a, b, c, d⟩ := ih q q (k + 1) 0 f hq (by omega) hql hr2 (by simpa using hne) (by simp at hf; omega) (fun g hg => hs g (by simp [hg]))
   refine ⟨k', l', y, cur', rest', g', ?_, ?_, by simpa using c, d⟩
   ·rw [z4l, hx]
    have : ((l : Int) == (g.length : Int)) = true := by simp at hl ⊢; omega
    simp only [Option.bind_some, this, if_true]
    rw [kw (by omega) (by omega)]
    have e : ((k : Int) + 1) = ((k + 1 : Nat) : Int) := by omega
    rw [e]; exact a
   ·rw [sF]; exact b
theorem zjy (k : Nat) (h : k < 5) : idx [(⟨#[115, 119, 105, 116, 99, 104]⟩ : zAd), (⟨#[98, 114, 97, 110, 99, 104]⟩ : zAd), (⟨#[103, 101, 110]⟩ : zAd), (⟨#[108, 111, 97, 100]⟩ : zAd), (⟨#[115, 116, 111, 114, 101]⟩ : zAd)] (k : Int) = some (zf0 k) := by
 have : k = 0 \/ k = 1 \/ k = 2 \/ k = 3 \/ k = 4 := by omega
 rcases this with rfl | rfl | rfl | rfl | rfl <;> rfl
theorem zgr (s : zAd) (items : List Item) (hi : items.length <= 1000) (hK : 100 < K) : ∀ (d f : Nat) (cur : List zAd) (rest : List (List zAd)) (g : List zAd) (k l j : Nat), (segs n)[k]? = some g -> g.length = l + cur.length -> g.length <= 1000 -> rest = (segs n).drop (k + 1) -> (∀ g ∈ rest, g.length <= 1000) ->
  (items.drop j).map (·.name) = cur ++ rest.flatten -> items.length - j = d -> d < f ->
  z59 K s items n f (k : Int) (l : Int) (j : Int) = some (match sF s cur rest k l with | some p => .inl (zf0 p.1, (p.2 : Int)) | none => .inr ()) := by
 intro d
 induction d with
 | zero =>
  intro f cur rest g k l j hg hl hgl hr hs hit hd hf
  obtain ⟨f, rfl⟩ : ∃ q, f = q + 1 := ⟨f - 1, by omega⟩
  rw [List.drop_eq_nil_of_le (by omega)] at hit
  have h2 := (List.append_eq_nil_iff.1 hit.symm)
  rw [z59, z2j (by omega), h2.1, zih s rest k l h2.2]
  simp
 | succ d ih =>
  intro f cur rest g k l j hg hl hgl hr hs hit hd hf
  obtain ⟨f, rfl⟩ : ∃ q, f = q + 1 := ⟨f - 1, by omega⟩
  have hj : j < items.length := by omega
  obtain ⟨x, hx⟩ : ∃ x, items[j]? = some x := ⟨_, zAh hj⟩
  have hdr : items.drop j = x :: items.drop (j + 1) := Lib.drop_at hx
  have hne : cur ++ rest.flatten ≠ [] := by rw [<- hit, hdr]; simp
  have hrl : rest.length < K := by
   have := congrArg List.length hr
   have hsl : (segs n).length = 5 := rfl
   rw [List.length_drop, hsl] at this; omega
  obtain ⟨k', l', y, cur', rest', g', a, b, c, d1, d2, d3, d4, d5⟩ := zjx (K := K) s rest cur g k l K hg hl hgl hr hne hrl hs
  have hy : x.name = y /\ (items.drop (j + 1)).map (·.name) = cur' ++ rest'.flatten := by
   rw [hdr, List.map_cons, c, List.cons_append] at hit
   exact List.cons.inj hit
  have hk5 := (zgq n k' d1).2
  rw [z59, z48 hj, b]
  simp only [if_true, z24 hx, Option.bind_some, a, tu2, hy.1]
  rw [sF]
  by_cases he : sEq y s = true
  ·simp only [he, if_true, zjy k' hk5, Option.bind_some]
  ·simp only [he, Bool.false_eq_true, if_false]
   rw [kw1 hj (by omega), kw (by omega) (by omega)]
   have e : ((l' : Int) + 1) = ((l' + 1 : Nat) : Int) := by omega
   rw [e]
   exact ih f cur' rest' g' k' (l' + 1) (j + 1) d1 (by omega) d3 d4 d5 hy.2 (by omega) (by omega)
def zld (n : Network) (s : zAd) : zAd × Int :=
 if 0 <= ixS (fun x => sEq x s) n.Nodes then (⟨#[110, 111, 100, 101]⟩, ixS (fun x => sEq x s) n.Nodes) else
 match sF s [] (segs n) 0 0 with
 | some p => (zf0 (p.1 - 1), (p.2 : Int))
 | none => (⟨#[]⟩, 0)
theorem zjz (s : zAd) : ∀ (m : Nat) (cur : List zAd) (rest : List (List zAd)) (k l : Nat), cur.length + (rest.map fun g => g.length + 1).sum = m -> sF s cur rest (k + 1) l = (sF s cur rest k l).map fun p => (p.1 + 1, p.2) := by
 intro m
 induction m using Nat.strongRecOn with
 | _ m ih =>
  intro cur rest k l hm
  cases cur with
  | nil =>
   cases rest with
   | nil => simp [sF]
   | cons g rest =>
    rw [sF, sF]
    exact ih _ (by simp at hm; omega) g rest (k + 1) 0 rfl
  | cons x cur =>
   rw [sF, sF]
   split
   ·rfl
   ·exact ih _ (by simp at hm; omega) cur rest k (l + 1) rfl
theorem zgs (n : Network) : (z5m n).map (·.name) = (segs n).flatten := by
 simp [z5m, segs, iSw, iBr, iGe, iLo, iSt, Function.comp_def]
theorem zi0 (hb : bigS n = false) (hK : 200 < K) (s : zAd) : z9e K n s = some (zld n s) := by
 have hb' : n.Nodes.length <= 24 /\ n.Switches.length <= 32 /\ n.Branches.length <= 24 /\ n.Gens.length <= 10 /\ n.Loads.length <= 12 /\ n.Stores.length <= 4 := by
  unfold bigS at hb; simp at hb; omega
 obtain ⟨a1, a2, a3, a4, a5, a6⟩ := hb'
 have hil : (z5m n).length <= 82 := by simp [z5m]; omega
 unfold z9e zld
 rw [zl0 n.Nodes s (by omega) (by omega), Option.bind_some]
 by_cases h0 : 0 <= ixS (fun x => sEq x s) n.Nodes
 ·have h1 : decide (ixS (fun x => sEq x s) n.Nodes >= 0) = true := by simp; omega
  rw [h1, if_pos rfl, if_pos h0]
 ·have h1 : decide (ixS (fun x => sEq x s) n.Nodes >= 0) = false := by simp; omega
  rw [h1, if_neg (by decide), if_neg h0, ze1 hb hK, Option.bind_some]
  have h2 := zgr (K := K) (n := n) s (z5m n) (by omega) (by omega) (z5m n).length K (n.Switches.map (·.Name)) ((segs n).drop 1) (n.Switches.map (·.Name)) 0 0 0 rfl (by simp) (by simp; omega) rfl (by
   intro g hg
   simp [segs] at hg
   rcases hg with rfl | rfl | rfl | rfl <;> simp <;> omega) (by rw [List.drop_zero, zgs]; simp [segs]) (by omega) (by omega)
  rw [show ((0 : Nat) : Int) = 0 from rfl] at h2
  rw [h2]
  have h3 : sF s [] (segs n) 0 0 = (sF s (n.Switches.map (·.Name)) ((segs n).drop 1) 0 0).map fun p => (p.1 + 1, p.2) := by
   rw [<- zjz s _ _ _ 0 0 rfl]
   show sF s [] (n.Switches.map (·.Name) :: (segs n).drop 1) 0 0 = _
   rw [sF]
  rw [h3]
  cases sF s (n.Switches.map (·.Name)) ((segs n).drop 1) 0 0 with
  | none => simp [z66, tu0]
  | some p => simp [z66, tu2]
end Go.Am.Tryd
/- Plain law: NetmodelFinds answers true for arguments of an argument's size. -/
namespace Go.Am.Tryd
open Go Go.Am Go.Proofs
variable {K : Nat} {n : Network} {s : zAd}
theorem zl1 (a b : zAd) : sEq a b = decide (ub a = ub b) := by
 by_cases h : ub a = ub b
 ·rw [zju h]; simp; exact z6a.2 rfl
 ·rw [decide_eq_false h]
  cases hq : sEq a b with
  | false => rfl
  | true => exact absurd (congrArg ub (z6a.1 hq)) h
def zau (k : Nat) : zAd := [(⟨#[110, 111, 100, 101]⟩ : zAd), (⟨#[115, 119, 105, 116, 99, 104]⟩ : zAd), (⟨#[98, 114, 97, 110, 99, 104]⟩ : zAd), (⟨#[103, 101, 110]⟩ : zAd), (⟨#[108, 111, 97, 100]⟩ : zAd), (⟨#[115, 116, 111, 114, 101]⟩ : zAd)].getD k ⟨#[]⟩
abbrev ixN (s : zAd) (l : List zAd) : Int := ixS (fun x => sEq x s) l
def fS (n : Network) (s : zAd) : Option (Nat × Int) :=
 if 0 <= ixN s n.Nodes then some (0, ixN s n.Nodes) else
 if 0 <= ixS (fun x => sEq x.Name s) n.Switches then some (1, ixS (fun x => sEq x.Name s) n.Switches) else
 if 0 <= ixS (fun x => sEq x.Name s) n.Branches then some (2, ixS (fun x => sEq x.Name s) n.Branches) else
 if 0 <= ixS (fun x => sEq x.Name s) n.Gens then some (3, ixS (fun x => sEq x.Name s) n.Gens) else
 if 0 <= ixS (fun x => sEq x.Name s) n.Loads then some (4, ixS (fun x => sEq x.Name s) n.Loads) else
 if 0 <= ixS (fun x => sEq x.Name s) n.Stores then some (5, ixS (fun x => sEq x.Name s) n.Stores) else none
theorem zl2 (n : Network) (s : zAd) : zld n s = match fS n s with | some p => (zau p.1, p.2) | none => (⟨#[]⟩, 0) := by
 unfold zld fS ixN
 by_cases h0 : 0 <= ixS (fun x => sEq x s) n.Nodes
 ·rw [if_pos h0, if_pos h0]; rfl
 rw [if_neg h0, if_neg h0]
 unfold segs
 rw [sF, zke, za0]
 by_cases h1 : 0 <= ixS (fun x => sEq x.Name s) n.Switches
 ·rw [if_pos h1, if_pos h1]; show (zf0 0, _) = (zau 1, _); rw [show zf0 0 = zau 1 from rfl]; congr 1; omega
 rw [if_neg h1, if_neg h1, sF, zke, za0]
 by_cases h2 : 0 <= ixS (fun x => sEq x.Name s) n.Branches
 ·rw [if_pos h2, if_pos h2]; show (zf0 1, _) = (zau 2, _); rw [show zf0 1 = zau 2 from rfl]; congr 1; omega
 rw [if_neg h2, if_neg h2, sF, zke, za0]
 by_cases h3 : 0 <= ixS (fun x => sEq x.Name s) n.Gens
 ·rw [if_pos h3, if_pos h3]; show (zf0 2, _) = (zau 3, _); rw [show zf0 2 = zau 3 from rfl]; congr 1; omega
 rw [if_neg h3, if_neg h3, sF, zke, za0]
 by_cases h4 : 0 <= ixS (fun x => sEq x.Name s) n.Loads
 ·rw [if_pos h4, if_pos h4]; show (zf0 3, _) = (zau 4, _); rw [show zf0 3 = zau 4 from rfl]; congr 1; omega
 rw [if_neg h4, if_neg h4, sF, zke, za0]
 by_cases h5 : 0 <= ixS (fun x => sEq x.Name s) n.Stores
 ·rw [if_pos h5, if_pos h5]; show (zf0 4, _) = (zau 5, _); rw [show zf0 4 = zau 5 from rfl]; congr 1; omega
 rw [if_neg h5, if_neg h5, sF]
theorem dge (x : Int) : decide (x >= 0) = decide (0 <= x) := rfl
theorem zc1 (F : Fits K n) (h : netS n = 0) (s : zAd) : z2o K n s = some (match fS n s with | some p => (zau p.1, p.2, 0) | none => (⟨#[]⟩, 0, 6)) := by
 obtain ⟨a1, a2, a3, a4, a5, a6⟩ := (zez h).big
 have hK := F.many
 unfold z2o fS ixN
 rw [za7 F, h, zig n.Nodes s (by omega) (by omega), ixf1 n.Switches s (by omega) (by omega), ixf2 n.Branches s (by omega) (by omega), ixf3 n.Gens s (by omega) (by omega), ixf4 n.Loads s (by omega) (by omega), ixf5 n.Stores s (by omega) (by omega)]
 have h00 : ((0 : Int) != 0) = false := rfl
 simp only [Option.bind_some, h00, Bool.false_eq_true, if_false, dge, decide_eq_true_eq]
 split
 ·rfl
 split
 ·rfl
 split
 ·rfl
 split
 ·rfl
 split
 ·rfl
 split <;> rfl
theorem zdh (F : Fits K n) (h : netS n ≠ 0) (s : zAd) : z2o K n s = some (⟨#[]⟩, 0, netS n) := by
 unfold z2o
 rw [za7 F]
 have : (netS n != 0) = true := by simp [h]
 rw [Option.bind_some, if_pos this]
theorem zi1 (F : Fits K n) (h : netS n = 0) (s : zAd) : z3e K n s = some (if 0 <= ixN s n.Nodes then (ixN s n.Nodes, 0) else (0, 6)) := by
 obtain ⟨a1, _⟩ := (zez h).big
 have hK := F.many
 unfold z3e ixN
 rw [za7 F, h, zig n.Nodes s (by omega) (by omega)]
 have h00 : ((0 : Int) != 0) = false := rfl
 simp only [Option.bind_some, h00, Bool.false_eq_true, if_false, decide_eq_true_eq]
 by_cases h1 : 0 <= ixS (fun x => sEq x s) n.Nodes
 ·rw [if_neg (by omega), if_pos h1]
 ·rw [if_pos (by omega), if_neg h1]
theorem zk0 (F : Fits K n) (h : netS n ≠ 0) (s : zAd) : z3e K n s = some (0, netS n) := by
 unfold z3e
 rw [za7 F]
 have : (netS n != 0) = true := by simp [h]
 rw [Option.bind_some, if_pos this]
def ze8 : Network := ⟨[], [], [], [], [], []⟩
theorem zii (hK : 200 < K) : z0t K ze8 = some true := by
 unfold z0t
 rw [za8 ⟨by decide, by simp [ze8], by simp [ze8], by simp [ze8], by simp [ze8], by simp [ze8], by simp [ze8]⟩ hK]
 rfl
theorem zea (h : NOk n) : z42 K n = some n := by
 obtain ⟨a1, a2, a3, a4, a5, a6⟩ := h.big
 unfold z42 z0z z1d z1e z23 z1s z1k
 rw [if_pos (by simp; omega), if_pos (by simp; omega), if_pos (by simp; omega), if_pos (by simp; omega), if_pos (by simp; omega), if_pos (by simp; omega)]
 rfl
def delL {α : Type} (xs : List α) (i : Nat) : List α := xs.take i ++ xs.drop (i + 1)
theorem zcl {α β : Type} (A B : List β) (f : α -> β) (xs : List α) (i : Nat) (h : i < xs.length) : delL (A ++ xs.map f ++ B) (A.length + i) = A ++ (delL xs i).map f ++ B := by
 unfold delL
 rw [List.append_assoc, List.take_length_add_append, Nat.add_assoc, List.drop_length_add_append, List.take_append_of_le_length (by simp; omega), List.drop_append_of_le_length (by simp; omega), List.map_append, List.map_take, List.map_drop]
 simp only [List.append_assoc]
def delN (n : Network) (k i : Nat) : Network := match k with
 | 1 => { n with Switches := delL n.Switches i }
 | 2 => { n with Branches := delL n.Branches i }
 | 3 => { n with Gens := delL n.Gens i }
 | 4 => { n with Loads := delL n.Loads i }
 | _ => { n with Stores := delL n.Stores i }
def lenN (n : Network) (k : Nat) : Nat := match k with
 | 1 => n.Switches.length
 | 2 => n.Branches.length
 | 3 => n.Gens.length
 | 4 => n.Loads.length
 | _ => n.Stores.length
def offN (n : Network) (k : Nat) : Nat := match k with
 | 1 => n.Nodes.length
 | 2 => n.Nodes.length + n.Switches.length
 | 3 => n.Nodes.length + n.Switches.length + n.Branches.length
 | 4 => n.Nodes.length + n.Switches.length + n.Branches.length + n.Gens.length
 | _ => n.Nodes.length + n.Switches.length + n.Branches.length + n.Gens.length + n.Loads.length
theorem zi2 (k i : Nat) (h1 : 1 <= k) (h5 : k <= 5) (h : i < lenN n k) : z60 K (delN n k i) = delL (z60 K n) (offN n k + i) := by
 have : k = 1 \/ k = 2 \/ k = 3 \/ k = 4 \/ k = 5 := by omega
 rcases this with rfl | rfl | rfl | rfl | rfl <;> simp only [lenN] at h <;> simp only [delN, offN, z60]
 ·have := zcl (n.Nodes.map nodL) (n.Branches.map (brL K) ++ n.Gens.map (geL K) ++ n.Loads.map (loL K) ++ n.Stores.map (stL K)) swL n.Switches i h
  simp only [List.length_map, List.length_append, List.append_assoc, Nat.add_assoc] at this ⊢; exact this.symm
 ·have := zcl (n.Nodes.map nodL ++ n.Switches.map swL) (n.Gens.map (geL K) ++ n.Loads.map (loL K) ++ n.Stores.map (stL K)) (brL K) n.Branches i h
  simp only [List.length_map, List.length_append, List.append_assoc, Nat.add_assoc] at this ⊢; exact this.symm
 ·have := zcl (n.Nodes.map nodL ++ n.Switches.map swL ++ n.Branches.map (brL K)) (n.Loads.map (loL K) ++ n.Stores.map (stL K)) (geL K) n.Gens i h
  simp only [List.length_map, List.length_append, List.append_assoc, Nat.add_assoc] at this ⊢; exact this.symm
 ·have := zcl (n.Nodes.map nodL ++ n.Switches.map swL ++ n.Branches.map (brL K) ++ n.Gens.map (geL K)) (n.Stores.map (stL K)) (loL K) n.Loads i h
  simp only [List.length_map, List.length_append, List.append_assoc, Nat.add_assoc] at this ⊢; exact this.symm
 ·have := zcl (n.Nodes.map nodL ++ n.Switches.map swL ++ n.Branches.map (brL K) ++ n.Gens.map (geL K) ++ n.Loads.map (loL K)) [] (stL K) n.Stores i h
  simp only [List.length_map, List.length_append, List.append_nil, Nat.add_assoc] at this ⊢; exact this.symm
theorem zeb : (z60 K n).length = n.Nodes.length + n.Switches.length + n.Branches.length + n.Gens.length + n.Loads.length + n.Stores.length := by simp [z60]; omega
theorem zav {α : Type} (xs : List α) (i : Nat) : (delL xs i).length <= xs.length := by unfold delL; simp; omega
theorem zaw {α : Type} {xs : List α} {i : Nat} {x : α} (h : x ∈ delL xs i) : x ∈ xs := by
 unfold delL at h
 rcases List.mem_append.1 h with h | h
 ·exact List.mem_of_mem_take h
 ·exact List.mem_of_mem_drop h
theorem zij (L : LOk n) (k i : Nat) : LOk (delN n k i) := by
 obtain ⟨a1, a2, a3, a4, a5, a6⟩ := L.len
 have l1 := zav n.Switches i
 have l2 := zav n.Branches i
 have l3 := zav n.Gens i
 have l4 := zav n.Loads i
 have l5 := zav n.Stores i
 unfold delN
 split
 ·exact ⟨⟨a1, by show (delL _ _).length <= _; omega, a3, a4, a5, a6⟩, L.nod, fun x hx => L.sw x (zaw hx), L.br, L.ge, L.lo, L.st⟩
 ·exact ⟨⟨a1, a2, by show (delL _ _).length <= _; omega, a4, a5, a6⟩, L.nod, L.sw, fun x hx => L.br x (zaw hx), L.ge, L.lo, L.st⟩
 ·exact ⟨⟨a1, a2, a3, by show (delL _ _).length <= _; omega, a5, a6⟩, L.nod, L.sw, L.br, fun x hx => L.ge x (zaw hx), L.lo, L.st⟩
 ·exact ⟨⟨a1, a2, a3, a4, by show (delL _ _).length <= _; omega, a6⟩, L.nod, L.sw, L.br, L.ge, fun x hx => L.lo x (zaw hx), L.st⟩
 ·exact ⟨⟨a1, a2, a3, a4, a5, by show (delL _ _).length <= _; omega⟩, L.nod, L.sw, L.br, L.ge, L.lo, fun x hx => L.st x (zaw hx)⟩
theorem zl3 {α : Type} (P : α -> Bool) : ∀ A B : List α, ixS P (A ++ B) = if 0 <= ixS P A then ixS P A else if 0 <= ixS P B then A.length + ixS P B else -1
 | [], B => by
  have := z5t P B
  simp only [List.nil_append, ixS, List.length_nil]
  by_cases h : 0 <= ixS P B
  ·rw [if_neg (by omega), if_pos h]; omega
  ·rw [if_neg (by omega), if_neg h]; omega
 | x :: A, B => by
  have ih := zl3 P A B
  have r1 := z5t P A
  have r2 := z5t P B
  simp only [List.cons_append, ixS, List.length_cons]
  by_cases hx : P x = true
  ·simp [hx]
  ·simp only [hx, Bool.false_eq_true, if_false, ih]
   by_cases h1 : 0 <= ixS P A
   ·have h1' : ¬ ixS P A < 0 := by omega
    have h1'' : 0 <= ixS P A + 1 := by omega
    simp only [if_pos h1, if_neg h1', if_pos h1'']
   ·rw [if_neg h1, if_pos (show ixS P A < 0 by omega), if_neg (show ¬ (0 : Int) <= -1 by omega)]
    by_cases h2 : 0 <= ixS P B
    ·simp only [if_pos h2]
     rw [if_neg (by omega)]; omega
    ·simp only [if_neg h2]
     rw [if_pos (by decide)]
def qS (K : Nat) (s : zAd) (x : zAd) : Bool := (z0g K x s).getD false
theorem zl4 (N : NOk n) (L : LOk n) (hK : 100 < K) (hs : s.size <= 1048576) : (∀ x ∈ z60 K n, z0g K x s = some (qS K s x)) ∧
  ixS (qS K s) (n.Nodes.map nodL) = -1 /\ ixS (qS K s) (n.Switches.map swL) = ixS (fun x => sEq x.Name s) n.Switches /\ ixS (qS K s) (n.Branches.map (brL K)) = ixS (fun x => sEq x.Name s) n.Branches ∧
  ixS (qS K s) (n.Gens.map (geL K)) = ixS (fun x => sEq x.Name s) n.Gens /\ ixS (qS K s) (n.Loads.map (loL K)) = ixS (fun x => sEq x.Name s) n.Loads /\ ixS (qS K s) (n.Stores.map (stL K)) = ixS (fun x => sEq x.Name s) n.Stores := by
 have dv : ∀ {nm line : zAd}, DevL nm line -> z0g K line s = some (qS K s line) /\ qS K s line = sEq nm s := fun {nm line} h => by
  have := zmm K h hs
  have h2 : qS K s line = sEq nm s := by unfold qS; rw [this]; rfl
  exact ⟨by rw [h2]; exact this, h2⟩
 refine ⟨fun x hx => ?_, ?_, ?_, ?_, ?_, ?_, ?_⟩
 ·unfold z60 at hx
  simp only [List.mem_append, List.mem_map] at hx
  rcases hx with ((((⟨y, hy, rfl⟩ | ⟨y, hy, rfl⟩) | ⟨y, hy, rfl⟩) | ⟨y, hy, rfl⟩) | ⟨y, hy, rfl⟩) | ⟨y, hy, rfl⟩
  ·unfold qS; rw [zkx]; rfl
  ·exact (dv (zib N hy)).1
  ·exact (dv (zic N L hK hy)).1
  ·exact (dv (zid N L hK hy)).1
  ·exact (dv (zie N L hK hy)).1
  ·exact (dv (zif N L hK hy)).1
 ·rw [za0, z8w (Q := fun _ => false) _ fun x _ => by unfold qS; rw [zkx]; rfl]
  generalize n.Nodes = l
  induction l with
  | nil => rfl
  | cons x l ih => simp [ixS, ih]
 ·rw [za0]; exact z8w _ fun x hx => (dv (zib N hx)).2
 ·rw [za0]; exact z8w _ fun x hx => (dv (zic N L hK hx)).2
 ·rw [za0]; exact z8w _ fun x hx => (dv (zid N L hK hx)).2
 ·rw [za0]; exact z8w _ fun x hx => (dv (zie N L hK hx)).2
 ·rw [za0]; exact z8w _ fun x hx => (dv (zif N L hK hx)).2
theorem zi3 {k : Nat} {i : Int} (h : fS n s = some (k, i)) : k <= 5 /\ 0 <= i /\ (k ≠ 0 -> ¬ 0 <= ixN s n.Nodes /\ i < lenN n k) := by
 unfold fS ixN at h
 have r1 := z5t (fun x => sEq x.Name s) n.Switches
 have r2 := z5t (fun x => sEq x.Name s) n.Branches
 have r3 := z5t (fun x => sEq x.Name s) n.Gens
 have r4 := z5t (fun x => sEq x.Name s) n.Loads
 have r5 := z5t (fun x => sEq x.Name s) n.Stores
 split at h
 ·rename_i h0; cases h; exact ⟨by decide, h0, fun h => absurd rfl h⟩
 rename_i h0
 split at h
 ·rename_i h1; cases h; exact ⟨by decide, h1, fun _ => ⟨h0, r1.2⟩⟩
 split at h
 ·rename_i h1; cases h; exact ⟨by decide, h1, fun _ => ⟨h0, r2.2⟩⟩
 split at h
 ·rename_i h1; cases h; exact ⟨by decide, h1, fun _ => ⟨h0, r3.2⟩⟩
 split at h
 ·rename_i h1; cases h; exact ⟨by decide, h1, fun _ => ⟨h0, r4.2⟩⟩
 split at h
 ·rename_i h1; cases h; exact ⟨by decide, h1, fun _ => ⟨h0, r5.2⟩⟩
 ·cases h
theorem zl5 (N : NOk n) (L : LOk n) (hK : 100 < K) (hs : s.size <= 1048576) {k : Nat} {i : Int} (h : fS n s = some (k, i)) (hk : k ≠ 0) : ixS (qS K s) (z60 K n) = offN n k + i := by
 obtain ⟨_, q0, q1, q2, q3, q4, q5⟩ := zl4 N L hK hs
 have h0 := ((zi3 h).2.2 hk).1
 unfold fS at h
 rw [if_neg h0] at h
 unfold z60
 simp only [zl3, q0, q1, q2, q3, q4, q5, List.length_append, List.length_map]
 rw [if_neg (show ¬ (0 : Int) <= -1 by decide)]
 split at h
 ·rename_i h1; cases h
  rw [if_pos h1, if_pos (by omega), if_pos (by omega), if_pos (by omega), if_pos (by omega)]; rfl
 rename_i n1
 rw [if_neg n1, if_neg (show ¬ (0 : Int) <= -1 by decide)]
 split at h
 ·rename_i h1; cases h
  rw [if_pos h1, if_pos (by omega), if_pos (by omega), if_pos (by omega)]; rfl
 rename_i n2
 rw [if_neg n2, if_neg (show ¬ (0 : Int) <= -1 by decide)]
 split at h
 ·rename_i h1; cases h
  rw [if_pos h1, if_pos (by omega), if_pos (by omega)]; rfl
 rename_i n3
 rw [if_neg n3, if_neg (show ¬ (0 : Int) <= -1 by decide)]
 split at h
 ·rename_i h1; cases h
  rw [if_pos h1, if_pos (by omega)]; rfl
 rename_i n4
 rw [if_neg n4, if_neg (show ¬ (0 : Int) <= -1 by decide)]
 split at h
 ·rename_i h1; cases h
  rw [if_pos h1]; rfl
 ·cases h
end Go.Am.Tryd
/- NetmodelFinds answers true for arguments of an argument's size. -/
namespace Go.Am.Tryd
open Go Go.Am Go.Proofs
variable {K : Nat} {n : Network} {s : zAd}
theorem kq : ∀ a b : Nat, a <= 5 -> b <= 5 -> sEq (zau a) (zau b) = decide (a = b) := fun a b ha hb => by
 have h1 : a = 0 \/ a = 1 \/ a = 2 \/ a = 3 \/ a = 4 \/ a = 5 := by omega
 have h2 : b = 0 \/ b = 1 \/ b = 2 \/ b = 3 \/ b = 4 \/ b = 5 := by omega
 rw [zl1]
 rcases h1 with rfl | rfl | rfl | rfl | rfl | rfl <;> rcases h2 with rfl | rfl | rfl | rfl | rfl | rfl <;> decide
theorem kq0 (a : Nat) (ha : a <= 5) : sEq (zau a) ⟨#[]⟩ = false := by
 have h1 : a = 0 \/ a = 1 \/ a = 2 \/ a = 3 \/ a = 4 \/ a = 5 := by omega
 rw [zl1]
 rcases h1 with rfl | rfl | rfl | rfl | rfl | rfl <;> decide
theorem kq1 (a : zAd) : sEq a a = true := z6a.2 rfl
theorem zl6 {i : Int} {m : Nat} (h0 : 0 <= i) (h : i < m) (hm : m <= 1000) : 0 <= i /\ i < z0u .i64 (i + 1) /\ z0u .i64 (i + 1) <= (m : Int) /\ (z0u .i64 (i + 1)).toNat = i.toNat + 1 := by
 rw [kw (by omega) (by omega)]; omega
theorem zdi (F : Fits K n) (h : netS n = 0) : z2n K n s = some (match fS n s with | none => (ze8, 6) | some p => if p.1 = 0 then (ze8, 1) else (delN n p.1 p.2.toNat, 0)) := by
 have N := zez h
 obtain ⟨a1, a2, a3, a4, a5, a6⟩ := N.big
 unfold z2n
 rw [zc1 F h, zea N]
 cases hf : fS n s with
 | none => rfl
 | some p =>
  obtain ⟨k, i⟩ := p
  obtain ⟨b1, b2, b3⟩ := zi3 hf
  have c0 : (⟨#[110, 111, 100, 101]⟩ : zAd) = zau 0 := rfl
  have c1 : (⟨#[115, 119, 105, 116, 99, 104]⟩ : zAd) = zau 1 := rfl
  have c2 : (⟨#[98, 114, 97, 110, 99, 104]⟩ : zAd) = zau 2 := rfl
  have c3 : (⟨#[103, 101, 110]⟩ : zAd) = zau 3 := rfl
  have c4 : (⟨#[108, 111, 97, 100]⟩ : zAd) = zau 4 := rfl
  have h00 : ((0 : Int) != 0) = false := rfl
  simp only [Option.bind_some, h00, Bool.false_eq_true, if_false, c0, c1, c2, c3, c4, kq _ 0 b1 (by decide), kq _ 1 b1 (by decide), kq _ 2 b1 (by decide), kq _ 3 b1 (by decide), kq _ 4 b1 (by decide), decide_eq_true_eq]
  have hk : k = 0 \/ k = 1 \/ k = 2 \/ k = 3 \/ k = 4 \/ k = 5 := by omega
  rcases hk with rfl | rfl | rfl | rfl | rfl | rfl
  ·simp [z66, tu2, ze8]
  all_goals
   have b4 := (b3 (by decide)).2
   simp only [lenN] at b4
   obtain ⟨d1, d2, d3, d4⟩ := zl6 (m := _) b2 b4 (by omega)
   simp only [z1b, z1c, z1x, z1m, z1g, d4, if_pos (show 0 <= i /\ i < z0u .i64 (i + 1) /\ z0u .i64 (i + 1) <= _ from ⟨d1, d2, d3⟩)]
   rfl
theorem zf1 (F : Fits K n) (h : netS n ≠ 0) : z2n K n s = some (ze8, netS n) := by
 unfold z2n
 rw [zdh F h]
 have : (netS n != 0) = true := by simp [h]
 simp only [Option.bind_some, this, if_true]; rfl
def setN (n : Network) (i : Nat) (o : Bool) : Network := match n.Switches[i]? with
 | some x => { n with Switches := n.Switches.set i { x with Open := o } }
 | none => n
theorem zk1 (F : Fits K n) (h : netS n = 0) (o : Bool) : z3v K n s o = some (match fS n s with | none => (ze8, 6) | some p => if p.1 = 1 then (setN n p.2.toNat o, 0) else (ze8, 1)) := by
 have N := zez h
 unfold z3v
 rw [zc1 F h, zea N]
 cases hf : fS n s with
 | none => rfl
 | some p =>
  obtain ⟨k, i⟩ := p
  obtain ⟨b1, b2, b3⟩ := zi3 hf
  have c1 : (⟨#[115, 119, 105, 116, 99, 104]⟩ : zAd) = zau 1 := rfl
  have h00 : ((0 : Int) != 0) = false := rfl
  simp only [Option.bind_some, h00, Bool.false_eq_true, if_false, c1, kq _ 1 b1 (by decide), lt]
  by_cases hk : k = 1
  ·subst hk
   have b4 := (b3 (by decide)).2
   simp only [lenN] at b4
   obtain ⟨x, hx⟩ : ∃ x, n.Switches[i.toNat]? = some x := ⟨_, zAh (by omega)⟩
   have hix : idx n.Switches i = some x := by
    have := z24 hx
    rwa [Int.toNat_of_nonneg b2] at this
   simp only [decide_true, Bool.not_true, Bool.false_eq_true, if_false, if_true, hix, Option.bind_some, setN, hx]
  ·simp only [hk, decide_false, Bool.not_false, if_true, if_false]; rfl
theorem zl7 (F : Fits K n) (h : netS n ≠ 0) (o : Bool) : z3v K n s o = some (ze8, netS n) := by
 unfold z3v
 rw [zdh F h]
 have : (netS n != 0) = true := by simp [h]
 simp only [Option.bind_some, this, if_true]; rfl
theorem zcm (xs : List zAd) (hl : xs.length <= 1048576) (hK : xs.length < K) : z1a K xs xs = some true := by
 have hlp : ∀ d k (i : Nat), xs.length - i = d -> i <= xs.length -> d < k -> z0o K xs xs k (i : Int) = some (.inr ()) := by
  intro d
  induction d with
  | zero =>
   intro k i hd hi hk
   obtain ⟨k, rfl⟩ : ∃ m, k = m + 1 := ⟨k - 1, by omega⟩
   rw [z0o, z2j (by omega)]; simp
  | succ d ih =>
   intro k i hd hi hk
   obtain ⟨k, rfl⟩ : ∃ m, k = m + 1 := ⟨k - 1, by omega⟩
   have hi2 : i < xs.length := by omega
   have hx : xs[i]? = some xs[i] := zAh hi2
   rw [z0o, z48 hi2]
   simp only [if_true, z24 hx, Option.bind_some, kq1, Bool.not_true, Bool.false_eq_true, if_false, kw1 hi2 (by omega)]
   exact ih k (i + 1) (by omega) (by omega) (by omega)
 have := hlp xs.length K 0 (by omega) (by omega) hK
 unfold z1a
 rw [show ((0 : Nat) : Int) = 0 from rfl] at this
 rw [this]
 simp [z66, tu0]
theorem zi4 (F : Fits K n) (h : netS n ≠ 0) (o : Bool) : z2g K n s o = some true := by
 have hz := zii F.many
 have hb : (netS n != 0) = true := by simp [h]
 unfold z2g
 rw [zdh F h, zk0 F h, zf1 F h, zl7 F h, zia F, show z4n K = some true from rfl]
 simp only [Option.bind_some, Bool.not_true, Bool.false_eq_true, if_false, hb, if_true, beq_self_eq_true, kq1, hz, tu1]
theorem zk2 (F : Fits K n) (L : LOk n) (h : netS n = 0) (hs : s.size <= 1048576) (o : Bool) : z2g K n s o = some true := by
 have hK := F.many
 have hz := zii hK
 have N := zez h
 have hbig : bigS n = false := by
  obtain ⟨a1, a2, a3, a4, a5, a6⟩ := N.big
  unfold bigS; simp; omega
 have h00 : ((0 : Int) != 0) = false := rfl
 have e00 : ((0 : Int) == 0) = true := rfl
 have c0 : (⟨#[110, 111, 100, 101]⟩ : zAd) = zau 0 := rfl
 have c1 : (⟨#[115, 119, 105, 116, 99, 104]⟩ : zAd) = zau 1 := rfl
 unfold z2g
 rw [zc1 F h, zi1 F h, zdi F h, zk1 F h, zia F, h, zi0 hbig hK, zl2, show z4n K = some true from rfl]
 simp only [Option.bind_some, Bool.not_true, Bool.false_eq_true, if_false, h00]
 cases hf : fS n s with
 | none =>
  have h0 : ¬ 0 <= ixN s n.Nodes := by
   intro h0; unfold fS at hf; rw [if_pos h0] at hf; cases hf
  simp only [if_neg h0, kq1, if_true, beq_self_eq_true, e00, hz, Option.bind_some, tu1]
 | some p =>
  obtain ⟨k, i⟩ := p
  obtain ⟨b1, b2, b3⟩ := zi3 hf
  simp only [kq0 k b1, Bool.false_eq_true, if_false, h00, kq1, Bool.not_true, bne_self_eq_false, Option.bind_some, tu1, c0, c1, kq k 0 b1 (by decide), kq k 1 b1 (by decide)]
  by_cases hk0 : k = 0
  ·subst hk0
   have h0 : 0 <= ixN s n.Nodes /\ ixN s n.Nodes = i := by
    unfold fS at hf
    split at hf
    ·rename_i h0; cases hf; exact ⟨h0, rfl⟩
    ·repeat (first | (split at hf; · cases hf) | cases hf)
   simp only [if_pos h0.1, h0.2, if_pos b2, decide_true, if_true, if_false, beq_self_eq_true, e00, hz, Option.bind_some, show (0 : Nat) ≠ 1 by decide]
  ·obtain ⟨g0, g1⟩ := b3 hk0
   have gl := zl5 (K := K) N L (by omega) hs hf hk0
   obtain ⟨q1, _⟩ := zl4 (K := K) N L (by omega) hs
   have hlen : (z60 K n).length <= 200 := by
    obtain ⟨a1, a2, a3, a4, a5, a6⟩ := N.big
    rw [zeb]; omega
   have hix : z19 K (z60 K n) (fun x => z0g K x s) = some (ixS (qS K s) (z60 K n)) := by
    unfold z19
    exact zck _ _ (fun k i => z0c K (z60 K n) (fun x => z0g K x s) k i) (by omega) (fun k i x hx => by
     have hi := z8z hx
     show z0c K _ _ (k + 1) i = _
     rw [z0c, z48 hi]
     simp only [if_true, z24 hx, Option.bind_some, q1 x (z7t hx), kw1 hi (by omega)]) (fun k => by
     show z0c K _ _ (k + 1) (z60 K n).length = _
     rw [z0c, z2j (Nat.le_refl _)]; simp)
   have hr := z5t (qS K s) (z60 K n)
   obtain ⟨d1, d2, d3, d4⟩ := zl6 (i := (offN n k : Int) + i) (m := (z60 K n).length) (by omega) (by rw [<- gl]; exact hr.2) (by omega)
   have hcl : z0z K (z60 K n) = some (z60 K n) := by
    unfold z0z
    rw [if_pos (by simp; omega)]; rfl
   have hde : z1l K (z60 K n) ((offN n k : Int) + i) (z0u .i64 ((offN n k : Int) + i + 1)) = some (z60 K (delN n k i.toNat)) := by
    unfold z1l
    rw [if_pos ⟨d1, d2, d3⟩, d4, zi2 k i.toNat (by omega) b1 (by omega)]
    unfold delL
    have e : ((offN n k : Int) + i).toNat = offN n k + i.toNat := by omega
    rw [e]
   have hll : (z60 K (delN n k i.toNat)).length <= 200 := by
    obtain ⟨a1, a2, a3, a4, a5, a6⟩ := (zij L k i.toNat).len
    rw [zeb]; omega
   have heq := zcm (K := K) (z60 K (delN n k i.toNat)) (by omega) (by omega)
   have hng : decide ((offN n k : Int) + i < 0) = false := by simp; omega
   have t6 : ((6 : Int) != 6) = false := rfl
   simp only [if_neg g0, hk0, decide_false, Bool.false_eq_true, if_false, t6, h00, za8 L hK, Option.bind_some, hix, gl, hng, za8 (zij L k i.toNat) hK, hcl, hde, heq, Bool.not_true, lt]
   by_cases hk1 : k = 1
   ·subst hk1
    simp only [lenN] at g1
    obtain ⟨x, hx⟩ : ∃ x, n.Switches[i.toNat]? = some x := ⟨_, zAh (by omega)⟩
    have hix2 : idx n.Switches i = some x := by
     have := z24 hx
     rwa [Int.toNat_of_nonneg b2] at this
    have hst : setN n i.toNat o = { n with Switches := n.Switches.set i.toNat { x with Open := o } } := by unfold setN; rw [hx]
    have hlt : i.toNat < n.Switches.length := by omega
    have hx2 : (n.Switches.set i.toNat { x with Open := o })[i.toNat]? = some { x with Open := o } := by rw [List.getElem?_set_self hlt]
    have hix3 : idx (n.Switches.set i.toNat { x with Open := o }) i = some { x with Open := o } := by
     have := z24 hx2
     rwa [Int.toNat_of_nonneg b2] at this
    have hback : ({ n with Switches := (n.Switches.set i.toNat { x with Open := o }).set i.toNat { x with Open := x.Open } } : Network) = n := by
     rw [List.set_set]
     have : n.Switches.set i.toNat x = n.Switches := by
      apply List.ext_getElem?
      intro j
      rw [List.getElem?_set]
      split
      ·rename_i hj; subst hj; rw [hx]
      ·rfl
     show ({ n with Switches := n.Switches.set i.toNat x } : Network) = n
     rw [this]
    simp only [decide_true, Bool.not_true, Bool.false_eq_true, if_false, if_true, h00, hst, List.length_set, bne_self_eq_false, hix3, hix2, Option.bind_some, beq_self_eq_true]
    rw [hback, za8 L hK, Option.bind_some, zcm (K := K) (z60 K n) (by omega) (by omega)]
    rfl
   ·simp only [hk1, decide_false, Bool.not_false, if_true, if_false, beq_self_eq_true, hz, Option.bind_some]
def zgt (B : Nat) (x : Switch) : Prop := x.Name.size <= B /\ x.A.size <= B /\ x.B.size <= B /\ True /\ True
def zgu (B : Nat) (x : Branch) : Prop := x.Name.size <= B /\ x.From.size <= B /\ x.To.size <= B /\ z57 .i64 x.X = true /\ z57 .i64 x.Tap = true /\ z57 .i64 x.Shift = true /\ z57 .i64 x.Limit = true /\ z57 .i64 x.Short = true /\ z57 .i64 x.Hold = true
def zma (B : Nat) (x : Gen) : Prop := x.Name.size <= B /\ x.Node.size <= B /\ z57 .i64 x.Least = true /\ z57 .i64 x.Most = true /\ z57 .i64 x.Ramp = true
def zik (B : Nat) (x : Load_) : Prop := x.Name.size <= B /\ x.Node.size <= B /\ z57 .i64 x.Demand = true
def zil (B : Nat) (x : Store) : Prop := x.Name.size <= B /\ x.Node.size <= B /\ z57 .i64 x.Charge = true /\ z57 .i64 x.Discharge = true /\ z57 .i64 x.Capacity = true
def zec (B : Nat) (x : Network) : Prop := (x.Nodes.length <= B /\ ∀ y ∈ x.Nodes, y.size <= B) /\ (x.Switches.length <= B /\ ∀ y ∈ x.Switches, zgt B y) /\ (x.Branches.length <= B /\ ∀ y ∈ x.Branches, zgu B y) /\ (x.Gens.length <= B /\ ∀ y ∈ x.Gens, zma B y) /\ (x.Loads.length <= B /\ ∀ y ∈ x.Loads, zik B y) /\ (x.Stores.length <= B /\ ∀ y ∈ x.Stores, zil B y)
theorem z9p {n : Network} {s : zAd} {o : Bool} (h : zec 1048576 n) (hs : s.size <= 1048576) (_ : True) : ∃ K, z2g K n s o = some true := by
 obtain ⟨q1, q2, q3, q4, q5, q6⟩ := h
 have sh : ∀ s : zAd, s.size <= 1048576 -> Sh 1048577 s := fun s h => ⟨by omega, h⟩
 have F : Fits 1048577 n := ⟨by omega, fun s q => sh s (q1.2 s q), fun x q => sh _ (q2.2 x q).1, fun x q => sh _ (q3.2 x q).1, fun x q => sh _ (q4.2 x q).1, fun x q => sh _ (q5.2 x q).1, fun x q => sh _ (q6.2 x q).1⟩
 refine ⟨1048577, ?_⟩
 by_cases h0 : netS n = 0
 ·refine zk2 F ⟨(zez h0).big, fun s q => q1.2 s q, fun x q => ?_, fun x q => ?_, fun x q => ?_, fun x q => ?_, fun x q => ?_⟩ h0 hs o
  ·obtain ⟨a, b, c, _⟩ := q2.2 x q; exact ⟨a, b, c⟩
  ·obtain ⟨a, b, c, d1, d2, d3, d4, d5, d6⟩ := q3.2 x q; exact ⟨⟨a, b, c⟩, by simp [d1, d2, d3, d4, d5, d6]⟩
  ·obtain ⟨a, b, d1, d2, d3⟩ := q4.2 x q; exact ⟨⟨a, b⟩, by simp [d1, d2, d3]⟩
  ·obtain ⟨a, b, d1⟩ := q5.2 x q; exact ⟨⟨a, b⟩, by simp [d1]⟩
  ·obtain ⟨a, b, d1, d2, d3⟩ := q6.2 x q; exact ⟨⟨a, b⟩, by simp [d1, d2, d3]⟩
 ·exact zi4 F h0 o
end Go.Am.Tryd
