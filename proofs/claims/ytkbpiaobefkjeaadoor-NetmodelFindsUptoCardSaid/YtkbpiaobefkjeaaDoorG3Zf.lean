/- Typed functions with the same answers as the program's, and the walks that show it. -/
import Derived.Test.YtkbpiaobefkjeaaDoorG2Zf
set_option maxRecDepth 100000
set_option maxHeartbeats 8000000
set_option linter.unusedVariables false
set_option linter.unusedSimpArgs false
namespace Go.Am.Tryd
open Go Go.Am Go.Proofs
variable (K : Nat) {G : GM} {H : AH} {L : List Pc}
def z2o (K : Nat) (a : Network) (b : zAd) : Option (zAd × Int × Int) := ((z3p K a).bind fun e => (if (e != 0) = true then some ((⟨#[]⟩ : zAd), 0, e) else ((z0l K a.Nodes b).bind fun f => (if (decide (f >= 0)) = true then some ((⟨#[110, 111, 100, 101]⟩ : zAd), f, 0) else ((z0m K a.Switches (fun x => z2t K x b)).bind fun g => (if (decide (g >= 0)) = true then some ((⟨#[115, 119, 105, 116, 99, 104]⟩ : zAd), g, 0) else ((z0n K a.Branches (fun x => z2u K x b)).bind fun h => (if (decide (h >= 0)) = true then some ((⟨#[98, 114, 97, 110, 99, 104]⟩ : zAd), h, 0) else ((z16 K a.Gens (fun x => z2v K x b)).bind fun i => (if (decide (i >= 0)) = true then some ((⟨#[103, 101, 110]⟩ : zAd), i, 0) else ((z0y K a.Loads (fun x => z2w K x b)).bind fun c => (if (decide (c >= 0)) = true then some ((⟨#[108, 111, 97, 100]⟩ : zAd), c, 0) else ((z0s K a.Stores (fun x => z2x K x b)).bind fun d => (if (decide (d >= 0)) = true then some ((⟨#[115, 116, 111, 114, 101]⟩ : zAd), d, 0) else some ((⟨#[]⟩ : zAd), 0, 6)))))))))))))))
theorem z5r (av : List Value) (p : Network) (aR : z00.rep G av p) (a : zAd) (O : Ow G H (L)) (r : zAd × Int × Int) (h : z2o K p a = some r) :
    CR Tryd.prog 5 [.agg av.toArray, (.string a)] G H (L) (fun v bY _ => v = .tuple #[.string r.1, .int .i64 r.2.1, .int .i64 r.2.2]) := by
 unfold z2o at h
 refine CR.og (n := 61) (fn := Tryd.f5) (by kernel_rfl) rfl rfl fun R kr => (.seq (.region (W.ln (Lo.box (r := z00) (x0 := p) (v := (.agg av.toArray)) rfl rfl aR O) ?_)))
 rintro bZ b0 ⟨M, rfl, bt, bI⟩
 refine W.ln (Lo.box (r := rS) (x0 := a) (v := (.string a)) rfl rfl rfl bt) ?_
 rintro b1 bJ ⟨c, rfl, aS, bK⟩
 refine W.p1 (.string (⟨#[]⟩ : zAd)) (W.p1 (.int .i64 0) (W.p1 (.int .i64 0) (.nil (.seq (.seq (.region ?_))))))
 obtain ⟨af, aT, ag⟩ := (aS.atVar (j := 1) rfl)
 refine W.loadA (cs := af) rfl rfl ag29 sz29 (z0f rfl aT) (RT.len _ ag) ?_
 obtain ⟨i, aU, ah⟩ := z03 h
 refine W.ln (Lo.cQ Tryd.f24 (mc rfl mn) aS (fun N f => z6o K af p ag f _ aU)) ?_
 rintro bL bM ⟨bN, t, u, bu, rfl⟩
 refine W.p1 (.int .i64 i) (.nil (.seq (.region (W.p2 (.int .i64 i) (W.p3 (.bool (i != 0)) (.nil ?_))))))
 refine .cond (b := (i != 0)) rfl rfl (fun P => ?_) (fun P => ?_)
 .have aV := z01 P ah
  refine .seq (.region (W.p2 (.int .i64 i) (W.p1 (.string (⟨#[]⟩ : zAd)) (W.p1 (.int .i64 0) (W.p1 (.int .i64 i) (.nil ?_))))))
  refine .ret ?_
  have aW := (t.drop 0).drop 0
  obtain rfl := zAa aV
  exact zi8 kr (v1 := (.string (⟨#[]⟩ : zAd))) (v2 := (.int .i64 0)) (v3 := (.int .i64 i)) (by rfl) rt rt rt aW u rfl
 have aX := z11 P ah
 refine .skip (.seq (.seq (.region (W.pv (padd (.pointer (some ⟨M, 0, none⟩)) 0) (z0a zaj ov (t.atVar (j := 1) rfl)) ?_))))
 obtain ⟨ai, aY, aZ⟩ := At.sl (At.proj (t.atVar (j := 1) rfl) z1y)
 refine W.l1 ai ag22 (z0f rfl aY) (W.l1 (.string a) ag9 (z0f rfl (At.str (t.atVar (j := 0) rfl))) ?_)
 obtain ⟨k, a0, aj⟩ := z03 aX
 refine W.ln (Lo.cQ Tryd.f27 (mc rfl (mc rfl mn)) t (fun N f => z2r K ai p.Nodes aZ a f _ a0)) ?_
 rintro bO bP ⟨bQ, C, E, bv, rfl⟩
 refine W.p1 (.int .i64 k) (.nil (.seq (.region (W.p2 (.int .i64 k) (W.p3 (.bool (decide (k >= 0))) (.nil ?_))))))
 refine .cond (b := decide (k >= 0)) rfl rfl (fun Q => ?_) (fun Q => ?_)
 .have a1 := z01 Q aj
  refine .seq (.region (W.p2 (.int .i64 k) (W.p1 (.string (⟨#[110, 111, 100, 101]⟩ : zAd)) (W.p1 (.int .i64 k) (W.p1 (.int .i64 0) (.nil ?_))))))
  refine .ret ?_
  have a2 := (C.drop 0).drop 0
  obtain rfl := zAa a1
  exact zi8 kr (v1 := (.string (⟨#[110, 111, 100, 101]⟩ : zAd))) (v2 := (.int .i64 k)) (v3 := (.int .i64 0)) (by rfl) rt rt rt a2 (zAe u E) rfl
 have a3 := z11 Q aj
 refine .skip (.seq (.seq (.region (W.pv (padd (.pointer (some ⟨M, 0, none⟩)) 1) (z0a z86 ov (C.atVar (j := 1) rfl)) ?_))))
 obtain ⟨ak, a4, a5⟩ := At.sl (At.proj (C.atVar (j := 1) rfl) z1h)
 refine W.l1 ak ag23 (z0f rfl a4) (W.pv (.func (.func 29) #[] #[(.pointer (some ⟨c, 0, none⟩))]) (z5x (z3l rfl mn) (z3l rfl (mc rfl mn))) ?_)
 obtain ⟨bR, a6, F, w⟩ := C.frzVar (j := 0) rfl
 obtain ⟨l, a7, al⟩ := z03 a3
 refine W.ln (Lo.cQ Tryd.f28 (mc rfl (mc rfl mn)) a6 (fun N f => z3x K ak p.Switches (RT.mono _ F a5) (.func (.func 29) #[] #[(.pointer (some ⟨c, 0, none⟩))]) (fun x => z2t K x a) ⟨29, _, _, Tryd.f29, rfl, by kernel_rfl, rfl, fun ae H L vs x r hG O hA hF => by obtain ⟨a8, rfl, a9⟩ := hA; exact z8o K a8 x a9 (.pointer (some ⟨c, 0, none⟩)) a (At.le w hG hG) O _ hF⟩ f _ a7)) ?_
 rintro bS bT ⟨bU, I, g, bw, rfl⟩
 refine W.p1 (.int .i64 l) (.nil (.seq (.region (W.p2 (.int .i64 l) (W.p3 (.bool (decide (l >= 0))) (.nil ?_))))))
 refine .cond (b := decide (l >= 0)) rfl rfl (fun S => ?_) (fun S => ?_)
 .have ba := z01 S al
  refine .seq (.region (W.p2 (.int .i64 l) (W.p1 (.string (⟨#[115, 119, 105, 116, 99, 104]⟩ : zAd)) (W.p1 (.int .i64 l) (W.p1 (.int .i64 0) (.nil ?_))))))
  refine .ret ?_
  have bb := I.drop 0
  obtain rfl := zAa ba
  exact zi8 kr (v1 := (.string (⟨#[115, 119, 105, 116, 99, 104]⟩ : zAd))) (v2 := (.int .i64 l)) (v3 := (.int .i64 0)) (by rfl) rt rt rt bb (zAe u (zAe E (zAe F g))) rfl
 have bc := z11 S al
 refine .skip (.seq (.seq (.region (W.pv (padd (.pointer (some ⟨M, 0, none⟩)) 2) (z0a zb1 ov (I.atVar (j := 0) rfl)) ?_))))
 obtain ⟨am, bd, be⟩ := At.sl (At.proj (I.atVar (j := 0) rfl) z25)
 refine W.l1 am ag24 (z0f rfl bd) (W.pv (.func (.func 31) #[] #[(.pointer (some ⟨c, 0, none⟩))]) (z5x (z3l rfl mn) (z3l rfl (mc rfl mn))) ?_)
 obtain ⟨m, bf, an⟩ := z03 bc
 refine W.ln (Lo.cQ Tryd.f30 (mc rfl (mc rfl mn)) I (fun N f => z3y K am p.Branches be (.func (.func 31) #[] #[(.pointer (some ⟨c, 0, none⟩))]) (fun x => z2u K x a) ⟨31, _, _, Tryd.f31, rfl, by kernel_rfl, rfl, fun ae H L vs x r hG O hA hF => by obtain ⟨bg, rfl, bh⟩ := hA; exact z8p K bg x bh (.pointer (some ⟨c, 0, none⟩)) a (At.le (At.le w g g) hG hG) O _ hF⟩ f _ bf)) ?_
 rintro bV bW ⟨bX, J, y, bx, rfl⟩
 refine W.p1 (.int .i64 m) (.nil (.seq (.region (W.p2 (.int .i64 m) (W.p3 (.bool (decide (m >= 0))) (.nil ?_))))))
 refine .cond (b := decide (m >= 0)) rfl rfl (fun T => ?_) (fun T => ?_)
 .have bi := z01 T an
  refine .seq (.region (W.p2 (.int .i64 m) (W.p1 (.string (⟨#[98, 114, 97, 110, 99, 104]⟩ : zAd)) (W.p1 (.int .i64 m) (W.p1 (.int .i64 0) (.nil ?_))))))
  refine .ret ?_
  have bj := J.drop 0
  obtain rfl := zAa bi
  exact zi8 kr (v1 := (.string (⟨#[98, 114, 97, 110, 99, 104]⟩ : zAd))) (v2 := (.int .i64 m)) (v3 := (.int .i64 0)) (by rfl) rt rt rt bj (zAe u (zAe E (zAe F (zAe g y)))) rfl
 have bk := z11 T an
 refine .skip (.seq (.seq (.region (W.pv (padd (.pointer (some ⟨M, 0, none⟩)) 3) (z0a zb2 ov (J.atVar (j := 0) rfl)) ?_))))
 obtain ⟨ao, bl, bm⟩ := At.sl (At.proj (J.atVar (j := 0) rfl) z3a)
 refine W.l1 ao ag25 (z0f rfl bl) (W.pv (.func (.func 33) #[] #[(.pointer (some ⟨c, 0, none⟩))]) (z5x (z3l rfl mn) (z3l rfl (mc rfl mn))) ?_)
 obtain ⟨o, bn, U⟩ := z03 bk
 refine W.ln (Lo.cQ Tryd.f32 (mc rfl (mc rfl mn)) J (fun N f => z52 K ao p.Gens bm (.func (.func 33) #[] #[(.pointer (some ⟨c, 0, none⟩))]) (fun x => z2v K x a) ⟨33, _, _, Tryd.f33, rfl, by kernel_rfl, rfl, fun ae H L vs x r hG O hA hF => by obtain ⟨bo, rfl, bp⟩ := hA; exact z8q K bo x bp (.pointer (some ⟨c, 0, none⟩)) a (At.le (At.le w (zAe g y) (zAe g y)) hG hG) O _ hF⟩ f _ bn)) ?_
 rintro bz bA ⟨bB, q, V, bq, rfl⟩
 have X := zAe g (zAe y V)
 have ap := zAe u (zAe E (zAe F (zAe g (zAe y V))))
 refine W.p1 (.int .i64 o) (.nil (.seq (.region (W.p2 (.int .i64 o) (W.p3 (.bool (decide (o >= 0))) (.nil ?_))))))
 refine .cond (b := decide (o >= 0)) rfl rfl (fun z => ?_) (fun z => ?_)
 .have aw := z01 z U
  refine .seq (.region (W.p2 (.int .i64 o) (W.p1 (.string (⟨#[103, 101, 110]⟩ : zAd)) (W.p1 (.int .i64 o) (W.p1 (.int .i64 0) (.nil ?_))))))
  refine .ret ?_
  have ax := q.drop 0
  obtain rfl := zAa aw
  exact zi8 kr (v1 := (.string (⟨#[103, 101, 110]⟩ : zAd))) (v2 := (.int .i64 o)) (v3 := (.int .i64 0)) (by rfl) rt rt rt ax ap rfl
 have ay := z11 z U
 refine .skip (.seq (.seq (.region (W.pv (padd (.pointer (some ⟨M, 0, none⟩)) 4) (z0a zb3 ov (q.atVar (j := 0) rfl)) ?_))))
 obtain ⟨Y, az, aA⟩ := At.sl (At.proj (q.atVar (j := 0) rfl) z35)
 refine W.l1 Y ag26 (z0f rfl az) (W.pv (.func (.func 35) #[] #[(.pointer (some ⟨c, 0, none⟩))]) (z5x (z3l rfl mn) (z3l rfl (mc rfl mn))) ?_)
 obtain ⟨d, aB, Z⟩ := z03 ay
 refine W.ln (Lo.cQ Tryd.f34 (mc rfl (mc rfl mn)) q (fun N f => z4o K Y p.Loads aA (.func (.func 35) #[] #[(.pointer (some ⟨c, 0, none⟩))]) (fun x => z2w K x a) ⟨35, _, _, Tryd.f35, rfl, by kernel_rfl, rfl, fun ae H L vs x r hG O hA hF => by obtain ⟨aC, rfl, aD⟩ := hA; exact z8r K aC x aD (.pointer (some ⟨c, 0, none⟩)) a (At.le (At.le w X X) hG hG) O _ hF⟩ f _ aB)) ?_
 rintro bC bD ⟨bE, s, aa, br, rfl⟩
 have aq := zAe X aa
 have ar := zAe ap aa
 refine W.p1 (.int .i64 d) (.nil (.seq (.region (W.p2 (.int .i64 d) (W.p3 (.bool (decide (d >= 0))) (.nil ?_))))))
 refine .cond (b := decide (d >= 0)) rfl rfl (fun A => ?_) (fun A => ?_)
 .have aE := z01 A Z
  refine .seq (.region (W.p2 (.int .i64 d) (W.p1 (.string (⟨#[108, 111, 97, 100]⟩ : zAd)) (W.p1 (.int .i64 d) (W.p1 (.int .i64 0) (.nil ?_))))))
  refine .ret ?_
  have aF := s.drop 0
  obtain rfl := zAa aE
  exact zi8 kr (v1 := (.string (⟨#[108, 111, 97, 100]⟩ : zAd))) (v2 := (.int .i64 d)) (v3 := (.int .i64 0)) (by rfl) rt rt rt aF ar rfl
 have aG := z11 A Z
 refine .skip (.seq (.seq (.region (W.pv (padd (.pointer (some ⟨M, 0, none⟩)) 5) (z0a zb4 ov (s.atVar (j := 0) rfl)) ?_))))
 obtain ⟨ab, aH, aI⟩ := At.sl (At.proj (s.atVar (j := 0) rfl) z2q)
 refine W.l1 ab ag27 (z0f rfl aH) (W.pv (.func (.func 37) #[] #[(.pointer (some ⟨c, 0, none⟩))]) (z5x (z3l rfl mn) (z3l rfl (mc rfl mn))) ?_)
 obtain ⟨e, aJ, ac⟩ := z03 aG
 refine W.ln (Lo.cQ Tryd.f36 (mc rfl (mc rfl mn)) s (fun N f => z4b K ab p.Stores aI (.func (.func 37) #[] #[(.pointer (some ⟨c, 0, none⟩))]) (fun x => z2x K x a) ⟨37, _, _, Tryd.f37, rfl, by kernel_rfl, rfl, fun ae H L vs x r hG O hA hF => by obtain ⟨aK, rfl, aL⟩ := hA; exact z8s K aK x aL (.pointer (some ⟨c, 0, none⟩)) a (At.le (At.le w aq aq) hG hG) O _ hF⟩ f _ aJ)) ?_
 rintro bF bG ⟨bH, ad, aM, bs, rfl⟩
 have au := zAe ar aM
 refine W.p1 (.int .i64 e) (.nil (.seq (.region (W.p2 (.int .i64 e) (W.p3 (.bool (decide (e >= 0))) (.nil ?_))))))
 refine .cond (b := decide (e >= 0)) rfl rfl (fun B => ?_) (fun B => ?_)
 rotate_left
 .have aN := z11 B ac
  refine .skip (.seq (.region (W.p1 (.string (⟨#[]⟩ : zAd)) (W.p1 (.int .i64 0) (W.p1 (.int .i64 6) (.nil ?_))))))
  refine .ret ?_
  have aO := ad.drop 0
  obtain rfl := zAa aN
  exact zi8 kr (v1 := (.string (⟨#[]⟩ : zAd))) (v2 := (.int .i64 0)) (v3 := (.int .i64 6)) (by rfl) rt rt rt aO au rfl
 have aP := z01 B ac
 refine .seq (.region (W.p2 (.int .i64 e) (W.p1 (.string (⟨#[115, 116, 111, 114, 101]⟩ : zAd)) (W.p1 (.int .i64 e) (W.p1 (.int .i64 0) (.nil ?_))))))
 refine .ret ?_
 have aQ := ad.drop 0
 obtain rfl := zAa aP
 exact zi8 kr (v1 := (.string (⟨#[115, 116, 111, 114, 101]⟩ : zAd))) (v2 := (.int .i64 e)) (v3 := (.int .i64 0)) (by rfl) rt rt rt aQ au rfl
def z3e (K : Nat) (b : Network) (d : zAd) : Option (Int × Int) := ((z3p K b).bind fun c => (if (c != 0) = true then some (0, c) else ((z0l K b.Nodes d).bind fun a => (if (decide (a < 0)) = true then some (0, 6) else some (a, 0)))))
theorem z9l (s : List Value) (e : Network) (u : z00.rep G s e) (k : zAd) (O : Ow G H (L)) (r : Int × Int) (h : z3e K e k = some r) :
    CR Tryd.prog 6 [.agg s.toArray, (.string k)] G H (L) (fun v ae _ => v = .tuple #[.int .i64 r.1, .int .i64 r.2]) := by
 unfold z3e at h
 refine CR.og (n := 20) (fn := Tryd.f6) (by kernel_rfl) rfl rfl fun R kr => (.seq (.region (W.ln (Lo.box (r := z00) (x0 := e) (v := (.agg s.toArray)) rfl rfl u O) ?_)))
 rintro af ag ⟨Q, rfl, w, X⟩
 refine W.p1 (.int .i64 0) (W.p1 (.int .i64 0) (.nil (.seq (.seq (.region ?_)))))
 obtain ⟨x, S, y⟩ := (w.atVar (j := 0) rfl)
 refine W.loadA (cs := x) rfl rfl ag29 sz29 (z0f rfl S) (RT.len _ y) ?_
 obtain ⟨c, z, l⟩ := z03 h
 refine W.ln (Lo.cQ Tryd.f24 (mc rfl mn) w (fun T t => z6o K x e y t _ z)) ?_
 rintro Y Z ⟨aa, d, f, U, rfl⟩
 refine W.p1 (.int .i64 c) (.nil (.seq (.region (W.p2 (.int .i64 c) (W.p3 (.bool (c != 0)) (.nil ?_))))))
 refine .cond (b := (c != 0)) rfl rfl (fun g => ?_) (fun g => ?_)
 .have A := z01 g l
  refine .seq (.region (W.p2 (.int .i64 c) (W.p1 (.int .i64 0) (W.p1 (.int .i64 c) (.nil (.ret ?_))))))
  have B := d.drop 0
  obtain rfl := zAa A
  exact zhr kr (v1 := (.int .i64 0)) (v2 := (.int .i64 c)) (by rfl) rt rt B f rfl
 have C := z11 g l
 refine .skip (.seq (.region (W.pv (padd (.pointer (some ⟨Q, 0, none⟩)) 0) (z0a zaj ov (d.atVar (j := 0) rfl)) ?_)))
 obtain ⟨m, E, F⟩ := At.sl (At.proj (d.atVar (j := 0) rfl) z1y)
 refine W.l1 m ag22 (z0f rfl E) (W.p2 (.string k) ?_)
 obtain ⟨a, I, o⟩ := z03 C
 refine W.ln (Lo.cQ Tryd.f27 (mc rfl (mc rfl mn)) d (fun T t => z2r K m e.Nodes F k t _ I)) ?_
 rintro ab ac ⟨ad, p, q, V, rfl⟩
 refine W.p1 (.int .i64 a) (.nil (.seq (.seq (.region (W.p2 (.int .i64 a) (W.p3 (.bool (decide (a < 0))) ?_))))))
 refine .nil (.cond (b := decide (a < 0)) rfl rfl (fun i => ?_) (fun i => ?_))
 .have J := z01 i o
  refine .seq (.region (W.p1 (.int .i64 0) (W.p1 (.int .i64 6) (.nil (.ret ?_)))))
  have M := p.drop 0
  obtain rfl := zAa J
  exact zhr kr (v1 := (.int .i64 0)) (v2 := (.int .i64 6)) (by rfl) rt rt M (zAe f q) rfl
 have N := z11 i o
 refine .skip (.seq (.region (W.p2 (.int .i64 a) (W.p1 (.int .i64 a) (W.p1 (.int .i64 0) (.nil ?_))))))
 refine .ret ?_
 have P := p.drop 0
 obtain rfl := zAa N
 exact zhr kr (v1 := (.int .i64 a)) (v2 := (.int .i64 0)) (by rfl) rt rt P (zAe f q) rfl
def z0z (K : Nat) (a : List zAd) : Option (List zAd) := (if ([] : List zAd).length + a.length <= 16777216 then some (([] : List zAd) ++ a) else none)
theorem z3s (b : Value) (f : List zAd) (c : (rSl rS).rep G [b] f) (O : Ow G H (L)) (r : List zAd) (h : z0z K f = some r) :
    CRF Tryd.prog 20 [b] G H (fun e => (eSl e 9 rS r :: L)) (fun e v B => e = v) := by
 unfold z0z at h
 refine CRF.og (n := 8) (fn := Tryd.f20) (by kernel_rfl) rfl rfl fun R kr => (.seq (.region (W.p1 (.slice none 0 0) (.nil (.seq (.seq ?_))))))
 refine .region (W.p2 b ?_)
 rcases zeq c with ⟨p, q⟩ | ⟨C, E, F, s⟩
 .have t : some [] = some r := by simpa [q] using h
  refine W.pv (.bool true) (zer el22 ov ov p) (.nil (.condT rfl rfl (.seq (.region (W.p1 (.slice none 0 0) (.nil ?_))))))
  refine .ret ?_
  have u := O.nilSl 9 rS
  obtain rfl := zAa t
  exact z4a kr (.slice none 0 0) (v1 := (.slice none 0 0)) (by rfl) rt u (zAf _) rfl
 refine W.pv (.bool false) (zes el22 ov ov s) (.nil (.condF rfl rfl (.skip (.seq (.region (W.ln (Lo.buildSlice (r := rS) (vs := []) (xs := ([] : List zAd)) el22 ze9 sz9 (by kernel_rfl) rfl qn rfl .nil O) ?_))))))
 rintro g z ⟨d, w⟩
 refine W.p2 b ?_
 obtain ⟨x, i, k⟩ := zbc c d
 obtain ⟨l, m⟩ := z38 h
 refine W.ln (Lo.append (j := 0) (v := g) rfl rfl el22 ni22 ze9 sz9 by9 (by decide) (by decide) rfl i k l d) ?_
 rintro a A ⟨o, y⟩
 refine W.p1 a (.nil (.ret ?_))
 obtain rfl := zAa m
 exact z4a kr a (v1 := a) (by rfl) rt o (zAf _) rfl
def z1d (K : Nat) (a : List Switch) : Option (List Switch) := (if ([] : List Switch).length + a.length <= 16777216 then some (([] : List Switch) ++ a) else none)
theorem z4p (b : Value) (f : List Switch) (c : (rSl z0x).rep G [b] f) (O : Ow G H (L)) (r : List Switch) (h : z1d K f = some r) :
    CRF Tryd.prog 54 [b] G H (fun e => (eSl e 52 z0x r :: L)) (fun e v B => e = v) := by
 unfold z1d at h
 refine CRF.og (n := 8) (fn := Tryd.f54) (by kernel_rfl) rfl rfl fun R kr => (.seq (.region (W.p1 (.slice none 0 0) (.nil (.seq (.seq ?_))))))
 refine .region (W.p2 b ?_)
 rcases zeq c with ⟨p, q⟩ | ⟨C, E, F, s⟩
 .have t : some [] = some r := by simpa [q] using h
  refine W.pv (.bool true) (zer el23 ov ov p) (.nil (.condT rfl rfl (.seq (.region (W.p1 (.slice none 0 0) (.nil ?_))))))
  refine .ret ?_
  have u := O.nilSl 52 z0x
  obtain rfl := zAa t
  exact z4a kr (.slice none 0 0) (v1 := (.slice none 0 0)) (by rfl) rt u (zAf _) rfl
 refine W.pv (.bool false) (zes el23 ov ov s) (.nil (.condF rfl rfl (.skip (.seq (.region (W.ln (Lo.buildSlice (r := z0x) (vs := []) (xs := ([] : List Switch)) el23 ze52 sz52 (by kernel_rfl) rfl qn rfl .nil O) ?_))))))
 rintro g z ⟨d, w⟩
 refine W.p2 b ?_
 obtain ⟨x, i, k⟩ := zbc c d
 obtain ⟨l, m⟩ := z38 h
 refine W.ln (Lo.append (j := 0) (v := g) rfl rfl el23 ni23 ze52 sz52 by52 (by decide) (by decide) rfl i k l d) ?_
 rintro a A ⟨o, y⟩
 refine W.p1 a (.nil (.ret ?_))
 obtain rfl := zAa m
 exact z4a kr a (v1 := a) (by rfl) rt o (zAf _) rfl
def z1e (K : Nat) (a : List Branch) : Option (List Branch) := (if ([] : List Branch).length + a.length <= 16777216 then some (([] : List Branch) ++ a) else none)
theorem z4q (b : Value) (f : List Branch) (c : (rSl z0i).rep G [b] f) (O : Ow G H (L)) (r : List Branch) (h : z1e K f = some r) :
    CRF Tryd.prog 55 [b] G H (fun e => (eSl e 59 z0i r :: L)) (fun e v B => e = v) := by
 unfold z1e at h
 refine CRF.og (n := 8) (fn := Tryd.f55) (by kernel_rfl) rfl rfl fun R kr => (.seq (.region (W.p1 (.slice none 0 0) (.nil (.seq (.seq ?_))))))
 refine .region (W.p2 b ?_)
 rcases zeq c with ⟨p, q⟩ | ⟨C, E, F, s⟩
 .have t : some [] = some r := by simpa [q] using h
  refine W.pv (.bool true) (zer el24 ov ov p) (.nil (.condT rfl rfl (.seq (.region (W.p1 (.slice none 0 0) (.nil ?_))))))
  refine .ret ?_
  have u := O.nilSl 59 z0i
  obtain rfl := zAa t
  exact z4a kr (.slice none 0 0) (v1 := (.slice none 0 0)) (by rfl) rt u (zAf _) rfl
 refine W.pv (.bool false) (zes el24 ov ov s) (.nil (.condF rfl rfl (.skip (.seq (.region (W.ln (Lo.buildSlice (r := z0i) (vs := []) (xs := ([] : List Branch)) el24 ze59 sz59 (by kernel_rfl) rfl qn rfl .nil O) ?_))))))
 rintro g z ⟨d, w⟩
 refine W.p2 b ?_
 obtain ⟨x, i, k⟩ := zbc c d
 obtain ⟨l, m⟩ := z38 h
 refine W.ln (Lo.append (j := 0) (v := g) rfl rfl el24 ni24 ze59 sz59 by59 (by decide) (by decide) rfl i k l d) ?_
 rintro a A ⟨o, y⟩
 refine W.p1 a (.nil (.ret ?_))
 obtain rfl := zAa m
 exact z4a kr a (v1 := a) (by rfl) rt o (zAf _) rfl
def z23 (K : Nat) (a : List Gen) : Option (List Gen) := (if ([] : List Gen).length + a.length <= 16777216 then some (([] : List Gen) ++ a) else none)
theorem z5l (b : Value) (f : List Gen) (c : (rSl z6b).rep G [b] f) (O : Ow G H (L)) (r : List Gen) (h : z23 K f = some r) :
    CRF Tryd.prog 56 [b] G H (fun e => (eSl e 67 z6b r :: L)) (fun e v B => e = v) := by
 unfold z23 at h
 refine CRF.og (n := 8) (fn := Tryd.f56) (by kernel_rfl) rfl rfl fun R kr => (.seq (.region (W.p1 (.slice none 0 0) (.nil (.seq (.seq ?_))))))
 refine .region (W.p2 b ?_)
 rcases zeq c with ⟨p, q⟩ | ⟨C, E, F, s⟩
 .have t : some [] = some r := by simpa [q] using h
  refine W.pv (.bool true) (zer el25 ov ov p) (.nil (.condT rfl rfl (.seq (.region (W.p1 (.slice none 0 0) (.nil ?_))))))
  refine .ret ?_
  have u := O.nilSl 67 z6b
  obtain rfl := zAa t
  exact z4a kr (.slice none 0 0) (v1 := (.slice none 0 0)) (by rfl) rt u (zAf _) rfl
 refine W.pv (.bool false) (zes el25 ov ov s) (.nil (.condF rfl rfl (.skip (.seq (.region (W.ln (Lo.buildSlice (r := z6b) (vs := []) (xs := ([] : List Gen)) el25 ze67 sz67 (by kernel_rfl) rfl qn rfl .nil O) ?_))))))
 rintro g z ⟨d, w⟩
 refine W.p2 b ?_
 obtain ⟨x, i, k⟩ := zbc c d
 obtain ⟨l, m⟩ := z38 h
 refine W.ln (Lo.append (j := 0) (v := g) rfl rfl el25 ni25 ze67 sz67 by67 (by decide) (by decide) rfl i k l d) ?_
 rintro a A ⟨o, y⟩
 refine W.p1 a (.nil (.ret ?_))
 obtain rfl := zAa m
 exact z4a kr a (v1 := a) (by rfl) rt o (zAf _) rfl
def z1s (K : Nat) (a : List Load_) : Option (List Load_) := (if ([] : List Load_).length + a.length <= 16777216 then some (([] : List Load_) ++ a) else none)
theorem z5c (b : Value) (f : List Load_) (c : (rSl z1w).rep G [b] f) (O : Ow G H (L)) (r : List Load_) (h : z1s K f = some r) :
    CRF Tryd.prog 57 [b] G H (fun e => (eSl e 71 z1w r :: L)) (fun e v B => e = v) := by
 unfold z1s at h
 refine CRF.og (n := 8) (fn := Tryd.f57) (by kernel_rfl) rfl rfl fun R kr => (.seq (.region (W.p1 (.slice none 0 0) (.nil (.seq (.seq ?_))))))
 refine .region (W.p2 b ?_)
 rcases zeq c with ⟨p, q⟩ | ⟨C, E, F, s⟩
 .have t : some [] = some r := by simpa [q] using h
  refine W.pv (.bool true) (zer el26 ov ov p) (.nil (.condT rfl rfl (.seq (.region (W.p1 (.slice none 0 0) (.nil ?_))))))
  refine .ret ?_
  have u := O.nilSl 71 z1w
  obtain rfl := zAa t
  exact z4a kr (.slice none 0 0) (v1 := (.slice none 0 0)) (by rfl) rt u (zAf _) rfl
 refine W.pv (.bool false) (zes el26 ov ov s) (.nil (.condF rfl rfl (.skip (.seq (.region (W.ln (Lo.buildSlice (r := z1w) (vs := []) (xs := ([] : List Load_)) el26 ze71 sz71 (by kernel_rfl) rfl qn rfl .nil O) ?_))))))
 rintro g z ⟨d, w⟩
 refine W.p2 b ?_
 obtain ⟨x, i, k⟩ := zbc c d
 obtain ⟨l, m⟩ := z38 h
 refine W.ln (Lo.append (j := 0) (v := g) rfl rfl el26 ni26 ze71 sz71 by71 (by decide) (by decide) rfl i k l d) ?_
 rintro a A ⟨o, y⟩
 refine W.p1 a (.nil (.ret ?_))
 obtain rfl := zAa m
 exact z4a kr a (v1 := a) (by rfl) rt o (zAf _) rfl
def z1k (K : Nat) (a : List Store) : Option (List Store) := (if ([] : List Store).length + a.length <= 16777216 then some (([] : List Store) ++ a) else none)
theorem z53 (b : Value) (f : List Store) (c : (rSl z1o).rep G [b] f) (O : Ow G H (L)) (r : List Store) (h : z1k K f = some r) :
    CRF Tryd.prog 58 [b] G H (fun e => (eSl e 75 z1o r :: L)) (fun e v B => e = v) := by
 unfold z1k at h
 refine CRF.og (n := 8) (fn := Tryd.f58) (by kernel_rfl) rfl rfl fun R kr => (.seq (.region (W.p1 (.slice none 0 0) (.nil (.seq (.seq ?_))))))
 refine .region (W.p2 b ?_)
 rcases zeq c with ⟨p, q⟩ | ⟨C, E, F, s⟩
 .have t : some [] = some r := by simpa [q] using h
  refine W.pv (.bool true) (zer el27 ov ov p) (.nil (.condT rfl rfl (.seq (.region (W.p1 (.slice none 0 0) (.nil ?_))))))
  refine .ret ?_
  have u := O.nilSl 75 z1o
  obtain rfl := zAa t
  exact z4a kr (.slice none 0 0) (v1 := (.slice none 0 0)) (by rfl) rt u (zAf _) rfl
 refine W.pv (.bool false) (zes el27 ov ov s) (.nil (.condF rfl rfl (.skip (.seq (.region (W.ln (Lo.buildSlice (r := z1o) (vs := []) (xs := ([] : List Store)) el27 ze75 sz75 (by kernel_rfl) rfl qn rfl .nil O) ?_))))))
 rintro g z ⟨d, w⟩
 refine W.p2 b ?_
 obtain ⟨x, i, k⟩ := zbc c d
 obtain ⟨l, m⟩ := z38 h
 refine W.ln (Lo.append (j := 0) (v := g) rfl rfl el27 ni27 ze75 sz75 by75 (by decide) (by decide) rfl i k l d) ?_
 rintro a A ⟨o, y⟩
 refine W.p1 a (.nil (.ret ?_))
 obtain rfl := zAa m
 exact z4a kr a (v1 := a) (by rfl) rt o (zAf _) rfl
def z18 : RT (Network × Value × Value × Value × Value × Value × Value) := rIso (rP rV (rP rV (rP rV (rP rV (rP rV rV))))) (fun s : Network × Value × Value × Value × Value × Value × Value => (s.2.1, s.2.2.1, s.2.2.2.1, s.2.2.2.2.1, s.2.2.2.2.2.1, s.2.2.2.2.2.2))
theorem z9m : Put z18 0 rV (fun x y => (x.1, y, x.2.2.1, x.2.2.2.1, x.2.2.2.2.1, x.2.2.2.2.2.1, x.2.2.2.2.2.2)) := by
  have h := Put.comp (Proj.iso (rP rV (rP rV (rP rV (rP rV (rP rV rV))))) (fun s : Network × Value × Value × Value × Value × Value × Value => (s.2.1, s.2.2.1, s.2.2.2.1, s.2.2.2.2.1, s.2.2.2.2.2.1, s.2.2.2.2.2.2))) (Put.iso (rP rV (rP rV (rP rV (rP rV (rP rV rV))))) (fun s : Network × Value × Value × Value × Value × Value × Value => (s.2.1, s.2.2.1, s.2.2.2.1, s.2.2.2.2.1, s.2.2.2.2.2.1, s.2.2.2.2.2.2)) (fun x q => ({ x.1 with  }, q.1, q.2.1, q.2.2.1, q.2.2.2.1, q.2.2.2.2.1, q.2.2.2.2.2)) (fun _ _ => rfl)) (Put.fst _ _)
  exact h
theorem z30 : Proj z18 1 rV (fun x => x.2.2.1) := by
  have h := (Proj.iso (rP rV (rP rV (rP rV (rP rV (rP rV rV))))) (fun s : Network × Value × Value × Value × Value × Value × Value => (s.2.1, s.2.2.1, s.2.2.2.1, s.2.2.2.2.1, s.2.2.2.2.2.1, s.2.2.2.2.2.2))).comp ((Proj.snd _ _).comp (Proj.fst _ _))
  exact h
theorem z61 : Put z18 1 rV (fun x y => (x.1, x.2.1, y, x.2.2.2.1, x.2.2.2.2.1, x.2.2.2.2.2.1, x.2.2.2.2.2.2)) := by
  have h := Put.comp (Proj.iso (rP rV (rP rV (rP rV (rP rV (rP rV rV))))) (fun s : Network × Value × Value × Value × Value × Value × Value => (s.2.1, s.2.2.1, s.2.2.2.1, s.2.2.2.2.1, s.2.2.2.2.2.1, s.2.2.2.2.2.2))) (Put.iso (rP rV (rP rV (rP rV (rP rV (rP rV rV))))) (fun s : Network × Value × Value × Value × Value × Value × Value => (s.2.1, s.2.2.1, s.2.2.2.1, s.2.2.2.2.1, s.2.2.2.2.2.1, s.2.2.2.2.2.2)) (fun x q => ({ x.1 with  }, q.1, q.2.1, q.2.2.1, q.2.2.2.1, q.2.2.2.2.1, q.2.2.2.2.2)) (fun _ _ => rfl)) (Put.comp (Proj.snd _ _) (Put.snd _ _) (Put.fst _ _))
  exact h
theorem z8a : Proj z18 2 rV (fun x => x.2.2.2.1) := by
  have h := (Proj.iso (rP rV (rP rV (rP rV (rP rV (rP rV rV))))) (fun s : Network × Value × Value × Value × Value × Value × Value => (s.2.1, s.2.2.1, s.2.2.2.1, s.2.2.2.2.1, s.2.2.2.2.2.1, s.2.2.2.2.2.2))).comp ((Proj.snd _ _).comp ((Proj.snd _ _).comp (Proj.fst _ _)))
  exact h
theorem z62 : Put z18 2 rV (fun x y => (x.1, x.2.1, x.2.2.1, y, x.2.2.2.2.1, x.2.2.2.2.2.1, x.2.2.2.2.2.2)) := by
  have h := Put.comp (Proj.iso (rP rV (rP rV (rP rV (rP rV (rP rV rV))))) (fun s : Network × Value × Value × Value × Value × Value × Value => (s.2.1, s.2.2.1, s.2.2.2.1, s.2.2.2.2.1, s.2.2.2.2.2.1, s.2.2.2.2.2.2))) (Put.iso (rP rV (rP rV (rP rV (rP rV (rP rV rV))))) (fun s : Network × Value × Value × Value × Value × Value × Value => (s.2.1, s.2.2.1, s.2.2.2.1, s.2.2.2.2.1, s.2.2.2.2.2.1, s.2.2.2.2.2.2)) (fun x q => ({ x.1 with  }, q.1, q.2.1, q.2.2.1, q.2.2.2.1, q.2.2.2.2.1, q.2.2.2.2.2)) (fun _ _ => rfl)) (Put.comp (Proj.snd _ _) (Put.snd _ _) (Put.comp (Proj.snd _ _) (Put.snd _ _) (Put.fst _ _)))
  exact h
theorem z9y : Proj z18 3 rV (fun x => x.2.2.2.2.1) := by
  have h := (Proj.iso (rP rV (rP rV (rP rV (rP rV (rP rV rV))))) (fun s : Network × Value × Value × Value × Value × Value × Value => (s.2.1, s.2.2.1, s.2.2.2.1, s.2.2.2.2.1, s.2.2.2.2.2.1, s.2.2.2.2.2.2))).comp ((Proj.snd _ _).comp ((Proj.snd _ _).comp ((Proj.snd _ _).comp (Proj.fst _ _))))
  exact h
theorem z7f : Put z18 3 rV (fun x y => (x.1, x.2.1, x.2.2.1, x.2.2.2.1, y, x.2.2.2.2.2.1, x.2.2.2.2.2.2)) := by
  have h := Put.comp (Proj.iso (rP rV (rP rV (rP rV (rP rV (rP rV rV))))) (fun s : Network × Value × Value × Value × Value × Value × Value => (s.2.1, s.2.2.1, s.2.2.2.1, s.2.2.2.2.1, s.2.2.2.2.2.1, s.2.2.2.2.2.2))) (Put.iso (rP rV (rP rV (rP rV (rP rV (rP rV rV))))) (fun s : Network × Value × Value × Value × Value × Value × Value => (s.2.1, s.2.2.1, s.2.2.2.1, s.2.2.2.2.1, s.2.2.2.2.2.1, s.2.2.2.2.2.2)) (fun x q => ({ x.1 with  }, q.1, q.2.1, q.2.2.1, q.2.2.2.1, q.2.2.2.2.1, q.2.2.2.2.2)) (fun _ _ => rfl)) (Put.comp (Proj.snd _ _) (Put.snd _ _) (Put.comp (Proj.snd _ _) (Put.snd _ _) (Put.comp (Proj.snd _ _) (Put.snd _ _) (Put.fst _ _))))
  exact h
theorem z9n : Proj z18 4 rV (fun x => x.2.2.2.2.2.1) := by
  have h := (Proj.iso (rP rV (rP rV (rP rV (rP rV (rP rV rV))))) (fun s : Network × Value × Value × Value × Value × Value × Value => (s.2.1, s.2.2.1, s.2.2.2.1, s.2.2.2.2.1, s.2.2.2.2.2.1, s.2.2.2.2.2.2))).comp ((Proj.snd _ _).comp ((Proj.snd _ _).comp ((Proj.snd _ _).comp ((Proj.snd _ _).comp (Proj.fst _ _)))))
  exact h
theorem z6y : Put z18 4 rV (fun x y => (x.1, x.2.1, x.2.2.1, x.2.2.2.1, x.2.2.2.2.1, y, x.2.2.2.2.2.2)) := by
  have h := Put.comp (Proj.iso (rP rV (rP rV (rP rV (rP rV (rP rV rV))))) (fun s : Network × Value × Value × Value × Value × Value × Value => (s.2.1, s.2.2.1, s.2.2.2.1, s.2.2.2.2.1, s.2.2.2.2.2.1, s.2.2.2.2.2.2))) (Put.iso (rP rV (rP rV (rP rV (rP rV (rP rV rV))))) (fun s : Network × Value × Value × Value × Value × Value × Value => (s.2.1, s.2.2.1, s.2.2.2.1, s.2.2.2.2.1, s.2.2.2.2.2.1, s.2.2.2.2.2.2)) (fun x q => ({ x.1 with  }, q.1, q.2.1, q.2.2.1, q.2.2.2.1, q.2.2.2.2.1, q.2.2.2.2.2)) (fun _ _ => rfl)) (Put.comp (Proj.snd _ _) (Put.snd _ _) (Put.comp (Proj.snd _ _) (Put.snd _ _) (Put.comp (Proj.snd _ _) (Put.snd _ _) (Put.comp (Proj.snd _ _) (Put.snd _ _) (Put.fst _ _)))))
  exact h
theorem z9d : Proj z18 5 rV (fun x => x.2.2.2.2.2.2) := by
  have h := (Proj.iso (rP rV (rP rV (rP rV (rP rV (rP rV rV))))) (fun s : Network × Value × Value × Value × Value × Value × Value => (s.2.1, s.2.2.1, s.2.2.2.1, s.2.2.2.2.1, s.2.2.2.2.2.1, s.2.2.2.2.2.2))).comp ((Proj.snd _ _).comp ((Proj.snd _ _).comp ((Proj.snd _ _).comp ((Proj.snd _ _).comp ((Proj.snd _ _).comp (Proj.self _))))))
  exact h
theorem z6p : Put z18 5 rV (fun x y => (x.1, x.2.1, x.2.2.1, x.2.2.2.1, x.2.2.2.2.1, x.2.2.2.2.2.1, y)) := by
  have h := Put.comp (Proj.iso (rP rV (rP rV (rP rV (rP rV (rP rV rV))))) (fun s : Network × Value × Value × Value × Value × Value × Value => (s.2.1, s.2.2.1, s.2.2.2.1, s.2.2.2.2.1, s.2.2.2.2.2.1, s.2.2.2.2.2.2))) (Put.iso (rP rV (rP rV (rP rV (rP rV (rP rV rV))))) (fun s : Network × Value × Value × Value × Value × Value × Value => (s.2.1, s.2.2.1, s.2.2.2.1, s.2.2.2.2.1, s.2.2.2.2.2.1, s.2.2.2.2.2.2)) (fun x q => ({ x.1 with  }, q.1, q.2.1, q.2.2.1, q.2.2.2.1, q.2.2.2.2.1, q.2.2.2.2.2)) (fun _ _ => rfl)) (Put.comp (Proj.snd _ _) (Put.snd _ _) (Put.comp (Proj.snd _ _) (Put.snd _ _) (Put.comp (Proj.snd _ _) (Put.snd _ _) (Put.comp (Proj.snd _ _) (Put.snd _ _) (Put.comp (Proj.snd _ _) (Put.snd _ _) (Put.self _))))))
  exact h
theorem z8t (G : GM) : z18.rep G ([.slice none 0 0] ++ ([.slice none 0 0] ++ ([.slice none 0 0] ++ ([.slice none 0 0] ++ ([.slice none 0 0] ++ [.slice none 0 0]))))) ((Network.mk ([] : List zAd) ([] : List Switch) ([] : List Branch) ([] : List Gen) ([] : List Load_) ([] : List Store)), .slice none 0 0, .slice none 0 0, .slice none 0 0, .slice none 0 0, .slice none 0 0, .slice none 0 0) := ⟨_, _, rfl, (zV G), ⟨_, _, rfl, (zV G), ⟨_, _, rfl, (zV G), ⟨_, _, rfl, (zV G), ⟨_, _, rfl, (zV G), (zV G)⟩⟩⟩⟩⟩
theorem z9t {G : GM} : ∃ cs : List Value, (∀ {s : List Value} {d : Tmp} {ty : TypeId} {pos : String} {af : Array Edge} {g : Option (Nat × Bool)} {ps : Array (Nat × Operand)}, zcq s ps.toList = some [] -> z32 Tryd.prog s ⟨some d, .build 29 ps, ty, pos, af, g⟩ = some (.agg cs.toArray)) /\ z18.rep G cs ((Network.mk ([] : List zAd) ([] : List Switch) ([] : List Branch) ([] : List Gen) ([] : List Load_) ([] : List Store)), .slice none 0 0, .slice none 0 0, .slice none 0 0, .slice none 0 0, .slice none 0 0, .slice none 0 0) := by
  refine ⟨_, fun {s d ty pos af g ps} hps => zbx pl29 ze29 zo29 hps ?_, z8t G⟩
  rfl
theorem z1p {G : GM} {cs : List Value} {x : Network} {a : Value} {b : List zAd} {c : Value} {d : List Switch} {e : Value} {f : List Branch} {g : Value} {i : List Gen} {j : Value} {k : List Load_} {l : Value} {m : List Store} (h : z18.rep G cs (x, a, c, e, g, j, l)) (n : (rSl rS).rep G [a] b) (o : (rSl z0x).rep G [c] d) (p : (rSl z0i).rep G [e] f) (q : (rSl z6b).rep G [g] i) (r : (rSl z1w).rep G [j] k) (s : (rSl z1o).rep G [l] m) : z00.rep G cs { x with Nodes := b, Switches := d, Branches := f, Gens := i, Loads := k, Stores := m } := by
  obtain ⟨_, _, rfl, t, _, _, rfl, u, _, _, rfl, v, _, _, rfl, w, _, _, rfl, y, z⟩ := h
  exact ⟨_, _, rfl, zkd t n, _, _, rfl, zkd u o, _, _, rfl, zkd v p, _, _, rfl, zkd w q, _, _, rfl, zkd y r, zkd z s⟩
theorem zet {G : GM} (a : Value) (b : Value) (c : Value) (e : Value) (f : Value) (h : Value) (i : rV.rep G a.cells.toList a) (j : rV.rep G b.cells.toList b) (k : rV.rep G c.cells.toList c) (l : rV.rep G e.cells.toList e) (n : rV.rep G f.cells.toList f) (o : rV.rep G h.cells.toList h) : ∃ cs : List Value, (∀ {s : List Value} {d : Tmp} {ty : TypeId} {pos : String} {af : Array Edge} {g : Option (Nat × Bool)} {ps : Array (Nat × Operand)}, zcq s ps.toList = some [(0, a), (1, b), (2, c), (3, e), (4, f), (5, h)] -> z32 Tryd.prog s ⟨some d, .build 29 ps, ty, pos, af, g⟩ = some (.agg cs.toArray)) /\ z18.rep G cs (Network.mk ([] : List zAd) ([] : List Switch) ([] : List Branch) ([] : List Gen) ([] : List Load_) ([] : List Store), a, b, c, e, f, h) := by
  have p := (z9m G _ _ _ _ (z8t G) i).1
  have q := (z61 G _ _ _ _ (p) j).1
  have r := (z62 G _ _ _ _ (q) k).1
  have t := (z7f G _ _ _ _ (r) l).1
  have u := (z6y G _ _ _ _ (t) n).1
  have v := (z6p G _ _ _ _ (u) o).1
  refine ⟨_, fun {s d ty pos af g ps} hps => zbx pl29 ze29 zo29 hps ?_, v⟩
  refine (z4y (off := 0) (sz := 1) (cs := _) rfl (RT.len _ i) (Nat.le_trans (Nat.le_of_ble_eq_true (m := 6) rfl) (Nat.le_of_eq (RT.len _ (z8t G)).symm))).trans ?_
  refine (z4y (off := 1) (sz := 1) (cs := _) rfl (RT.len _ j) (Nat.le_trans (Nat.le_of_ble_eq_true (m := 6) rfl) (Nat.le_of_eq (RT.len _ (p)).symm))).trans ?_
  refine (z4y (off := 2) (sz := 1) (cs := _) rfl (RT.len _ k) (Nat.le_trans (Nat.le_of_ble_eq_true (m := 6) rfl) (Nat.le_of_eq (RT.len _ (q)).symm))).trans ?_
  refine (z4y (off := 3) (sz := 1) (cs := _) rfl (RT.len _ l) (Nat.le_trans (Nat.le_of_ble_eq_true (m := 6) rfl) (Nat.le_of_eq (RT.len _ (r)).symm))).trans ?_
  refine (z4y (off := 4) (sz := 1) (cs := _) rfl (RT.len _ n) (Nat.le_trans (Nat.le_of_ble_eq_true (m := 6) rfl) (Nat.le_of_eq (RT.len _ (t)).symm))).trans ?_
  refine (z4y (off := 5) (sz := 1) (cs := _) rfl (RT.len _ o) (Nat.le_trans (Nat.le_of_ble_eq_true (m := 6) rfl) (Nat.le_of_eq (RT.len _ (u)).symm))).trans ?_
  rfl
def z42 (K : Nat) (a : Network) : Option Network := ((z0z K a.Nodes).bind fun b => ((z1d K a.Switches).bind fun c => ((z1e K a.Branches).bind fun d => ((z23 K a.Gens).bind fun e => ((z1s K a.Loads).bind fun f => ((z1k K a.Stores).bind fun g => some ({ (Network.mk ([] : List zAd) ([] : List Switch) ([] : List Branch) ([] : List Gen) ([] : List Load_) ([] : List Store)) with Nodes := b, Switches := c, Branches := d, Gens := e, Loads := f, Stores := g })))))))
theorem z6z (aC : List Value) (i : Network) (aJ : z00.rep G aC i) (O : Ow G H (L)) (r : Network) (h : z42 K i = some r) :
    CRF Tryd.prog 22 [.agg aC.toArray] G H (fun c => (eSl (oV c 0) 9 rS r.Nodes :: eSl (oV c 1) 52 z0x r.Switches :: eSl (oV c 2) 59 z0i r.Branches :: eSl (oV c 3) 67 z6b r.Gens :: eSl (oV c 4) 71 z1w r.Loads :: eSl (oV c 5) 75 z1o r.Stores :: L)) (fun c v a9 => ∃ (aK : List Value), v = .agg aK.toArray /\ z18.rep a9 aK (r, oV c 0, oV c 1, oV c 2, oV c 3, oV c 4, oV c 5)) := by
 unfold z42 at h
 refine CRF.og (n := 22) (fn := Tryd.f22) (by kernel_rfl) rfl rfl fun R kr => (.seq (.region (W.ln (Lo.box (r := z00) (x0 := i) (v := (.agg aC.toArray)) rfl rfl aJ O) ?_)))
 rintro bp bq ⟨J, rfl, ba, bd⟩
 refine W.ln (Lo.alloc (r := z00) (x0 := (Network.mk ([] : List zAd) ([] : List Switch) ([] : List Branch) ([] : List Gen) ([] : List Load_) ([] : List Store))) ze29 (by kernel_rfl) z6n ba) ?_
 rintro br be ⟨bb, rfl, bc, bf⟩
 refine .nil (.seq (.draw2 (M := [0, 1, 3, 0, 8, 31, 0, 64, 255, 0, 512, 2047, 0, 4096, 16383, 0, 32768, 131071, 262143, 524287]) mixed (by kernel_rfl) (by kernel_rfl) fun bg bh aL bi => ?_))
 have N := bc.ext aL
 refine D2.pv (padd (.pointer (some ⟨J, 0, none⟩)) 0) (z0a zaj ov (N.atVar (j := 1) rfl)) ?_
 obtain ⟨af, aM, aN⟩ := At.sl (At.proj (N.atVar (j := 1) rfl) z1y)
 refine D2.l1 af ag22 (z0f rfl aM) z0d ?_
 obtain ⟨bj, aO, aP⟩ := z03 h
 refine D2.lo rfl rfl (Lo.qF Tryd.f20 (ps := []) (pw := fun w => [_]) (mc rfl mn) N (fun P e => z3s K af i.Nodes aN e _ aO)) ?_ z0d ?_ ?_
 .rintro ag ah ⟨m, ai, o, Q, b, rfl⟩; exact (faI z0d)
 .rintro ag ah ⟨m, ai, o, Q, b, rfl⟩; exact z0d
 rintro ag ah ⟨m, ai, o, Q, b, rfl⟩
 refine D2.pv (padd (.pointer (some ⟨J, 0, none⟩)) 1) (z0a z86 ov (o.atVar (j := 2) rfl)) ?_
 obtain ⟨aj, aQ, aR⟩ := At.sl (At.proj (o.atVar (j := 2) rfl) z1h)
 refine D2.l1 aj ag23 (z0f rfl aQ) (z85 (smI (j := 1) b) z0d) ?_
 obtain ⟨bk, aS, aT⟩ := z03 aP
 refine D2.lo rfl rfl (Lo.qF Tryd.f54 (ps := []) (pw := fun w => [_]) (mc rfl mn) o (fun P e => z4p K aj i.Switches aR e _ aS)) ?_ (faK z0d) ?_ ?_
 .rintro ak al ⟨q, am, t, S, d, rfl⟩; exact (faI (faI z0d))
 .rintro ak al ⟨q, am, t, S, d, rfl⟩; exact z0d
 rintro ak al ⟨q, am, t, S, d, rfl⟩
 refine D2.pv (padd (.pointer (some ⟨J, 0, none⟩)) 2) (z0a zb1 ov (t.atVar (j := 3) rfl)) ?_
 obtain ⟨an, aU, aV⟩ := At.sl (At.proj (t.atVar (j := 3) rfl) z25)
 refine D2.l1 an ag24 (z0f rfl aU) (z85 (smI (j := 2) d) (z85 (smI (j := 1) b) z0d)) ?_
 obtain ⟨bl, aW, aX⟩ := z03 aT
 refine D2.lo rfl rfl (Lo.qF Tryd.f55 (ps := []) (pw := fun w => [_]) (mc rfl mn) t (fun P e => z4q K an i.Branches aV e _ aW)) ?_ (faK (faK z0d)) ?_ ?_
 .rintro ao ap ⟨u, aq, x, T, f, rfl⟩; exact (faI (faI (faI z0d)))
 .rintro ao ap ⟨u, aq, x, T, f, rfl⟩; exact z0d
 rintro ao ap ⟨u, aq, x, T, f, rfl⟩
 refine D2.pv (padd (.pointer (some ⟨J, 0, none⟩)) 3) (z0a zb2 ov (x.atVar (j := 4) rfl)) ?_
 obtain ⟨ar, aY, aZ⟩ := At.sl (At.proj (x.atVar (j := 4) rfl) z3a)
 refine D2.l1 ar ag25 (z0f rfl aY) (z85 (smI (j := 3) f) (z85 (smI (j := 2) d) (z85 (smI (j := 1) b) z0d))) ?_
 obtain ⟨bm, a0, a1⟩ := z03 aX
 refine D2.lo rfl rfl (Lo.qF Tryd.f56 (ps := []) (pw := fun w => [_]) (mc rfl mn) x (fun P e => z5l K ar i.Gens aZ e _ a0)) ?_ (faK (faK (faK z0d))) ?_ ?_
 .rintro au av ⟨y, aw, z, U, k, rfl⟩; exact (faI (faI (faI (faI z0d))))
 .rintro au av ⟨y, aw, z, U, k, rfl⟩; exact z0d
 rintro au av ⟨y, aw, z, U, k, rfl⟩
 refine D2.pv (padd (.pointer (some ⟨J, 0, none⟩)) 4) (z0a zb3 ov (z.atVar (j := 5) rfl)) ?_
 obtain ⟨ax, a2, a3⟩ := At.sl (At.proj (z.atVar (j := 5) rfl) z35)
 refine D2.l1 ax ag26 (z0f rfl a2) (z85 (smI (j := 4) k) (z85 (smI (j := 3) f) (z85 (smI (j := 2) d) (z85 (smI (j := 1) b) z0d)))) ?_
 obtain ⟨bn, a4, a5⟩ := z03 a1
 refine D2.lo rfl rfl (Lo.qF Tryd.f57 (ps := []) (pw := fun w => [_]) (mc rfl mn) z (fun P e => z5c K ax i.Loads a3 e _ a4)) ?_ (faK (faK (faK (faK z0d)))) ?_ ?_
 .rintro ay az ⟨A, aA, B, V, C, rfl⟩; exact (faI (faI (faI (faI (faI z0d)))))
 .rintro ay az ⟨A, aA, B, V, C, rfl⟩; exact z0d
 rintro ay az ⟨A, aA, B, V, C, rfl⟩
 refine D2.pv (padd (.pointer (some ⟨J, 0, none⟩)) 5) (z0a zb4 ov (B.atVar (j := 6) rfl)) ?_
 obtain ⟨aB, a6, a7⟩ := At.sl (At.proj (B.atVar (j := 6) rfl) z2q)
 refine D2.l1 aB ag27 (z0f rfl a6) (z85 (smI (j := 5) C) (z85 (smI (j := 4) k) (z85 (smI (j := 3) f) (z85 (smI (j := 2) d) (z85 (smI (j := 1) b) z0d))))) ?_
 obtain ⟨bo, aD, aE⟩ := z03 a5
 refine D2.lo rfl rfl (Lo.qF Tryd.f58 (ps := []) (pw := fun w => [_]) (mc rfl mn) B (fun P e => z53 K aB i.Stores a7 e _ aD)) ?_ (faK (faK (faK (faK (faK z0d))))) ?_ ?_
 .rintro X Y ⟨g, Z, a, E, F, rfl⟩; exact (faI (faI (faI (faI (faI (faI z0d))))))
 .rintro X Y ⟨g, Z, a, E, F, rfl⟩; exact z0d
 rintro X Y ⟨g, Z, a, E, F, rfl⟩
 have a8 := zAe Q (zAe S (zAe T (zAe U (zAe V E))))
 obtain ⟨aa, aF, aG⟩ := zet m q u y A g (zcn (a.slLen (j := 5) rfl)) (zcn (a.slLen (j := 4) rfl)) (zcn (a.slLen (j := 3) rfl)) (zcn (a.slLen (j := 2) rfl)) (zcn (a.slLen (j := 1) rfl)) (zcn (a.slLen (j := 0) rfl))
 refine D2.pv (.agg aa.toArray) (aF (z4t rfl (qc' rfl (qc' rfl (qc' rfl (qc' rfl (qc' rfl (qc' rfl qn')))))))) (D2.lo rfl rfl (Lo.storeW (j := 6) (r := z00) (s := z18) (y0 := ((Network.mk ([] : List zAd) ([] : List Switch) ([] : List Branch) ([] : List Gen) ([] : List Load_) ([] : List Store)), m, q, u, y, A, g)) (v := (.agg aa.toArray)) rfl rfl rfl sz29 rfl rfl aG a) ?_ (faK (faK (faK (faK (faK (faK z0d)))))) ?_ ?_)
 .rintro ab ac ⟨l, I⟩; exact (faI (faI (faI (faI (faI (faI z0d))))))
 .rintro ab ac ⟨l, I⟩; exact z0d
 rintro ab ac ⟨l, I⟩
 refine .nil (.ret ?_)
 obtain ⟨ad, aH, ae⟩ := (l.atVar (j := 6) rfl)
 have aI := (((((((l.drop 6).drop 6).front (j := 0) rfl).front (j := 1) rfl).front (j := 2) rfl).front (j := 3) rfl).front (j := 4) rfl).front (j := 5) rfl
 obtain rfl := zAa aE
 exact z4a kr (.tuple ⟨.nilFunc :: [m, q, u, y, A, g]⟩) (v1 := (.agg ad.toArray)) (by rfl) (z8i (p := (.pointer (some ⟨bb, 0, none⟩))) (by rfl) ag29 sz29 (by exact rfl) aH (RT.len _ ae)) aI a8 ⟨ad, rfl, ae⟩
def z1b (K : Nat) (a : List Switch) (b : Int) (c : Int) : Option (List Switch) := if 0 <= b /\ b < c /\ c <= (a.length : Int) then some (a.take b.toNat ++ a.drop c.toNat) else none
theorem z4h (m : Value) (a : List Switch) (c : Int) (d : Int) (O : Ow G H (eSl m 52 z0x a :: L)) (r : List Switch) (h : z1b K a c d = some r) :
    CRF Tryd.prog 38 [m, .int .i64 c, .int .i64 d] G H (fun k => (eSl k 52 z0x r :: L)) (fun k v x => k = v) := by
 unfold z1b at h
 obtain ⟨⟨y, z, o⟩, h⟩ := z38 h
 obtain rfl := zAa h
 obtain ⟨i, rfl⟩ : ∃ i : Nat, c = i := ⟨c.toNat, by omega⟩
 obtain ⟨j, rfl⟩ : ∃ j : Nat, d = j := ⟨d.toNat, by omega⟩
 rw [Int.toNat_natCast, Int.toNat_natCast]
 obtain ⟨b, tg, cap, rfl, hc, ht⟩ := O.slForm (q := 0) rfl (fun e => by rw [e] at o; simp at o; omega)
 have hl : zeo (.slice (some ⟨b, 0, tg⟩) a.length cap) a.length := O.slLen (j := 0) rfl
 refine CRF.og (n := 33) (fn := Tryd.f38) (by kernel_rfl) rfl rfl fun R kr => (.seq (.region (W.pv (.slice none 0 0) (z2k ov) (.nil ?_))))
 refine .seq (.region (W.pv (.slice (some ⟨b, 0, tg⟩) a.length cap) (z12 ov) (W.pv (.int .i64 (i : Int)) (z12 ov) (W.pv (.int .i64 (j : Int)) (z12 ov) (W.pv (.slice (some ⟨b, 0, tg⟩) a.length cap) (z12 ov) (W.pv (.int .i64 (a.length : Nat)) (z1j ov hl (z02 el23)) ?_))))))
 refine W.pv (.slice (some ⟨b, 0 + i * z0x.sz, some 0⟩) (j - i) (a.length - i)) (z9i el23 sz52 ov ov ov ov (by omega) (by omega) hc hc ht) (.nil ?_)
 refine .seq (.seq (.region (W.pv (.int .i64 (i : Int)) (z12 ov) (W.pv (.int .i64 (j : Int)) (z12 ov) ?_))))
 refine W.pv (.bool false) ((zgy ov ov rfl).trans (congrArg (fun q => some (Value.bool q)) (beq_eq_false_iff_ne.2 (by omega)))) (.nil (.condF rfl rfl (.skip ?_)))
 refine .seq (.region (W.pv (.slice (some ⟨b, 0, tg⟩) a.length cap) (z12 ov) (W.pv (.int .i64 (a.length : Nat)) (z1j ov hl (z02 el23)) (W.pv (.int .i64 (a.length : Nat)) (z2k ov) (.nil ?_)))))
 refine .seq (.draw2 (M := [0, 0, 3, 0, 0, 24, 63, 127]) mixed (by kernel_rfl) (by kernel_rfl) fun A B p w => ?_)
 have s := O.ext p
 refine D2.pv (.slice (some ⟨b, 0, tg⟩) a.length cap) (z12 ov) (D2.pv (.int .i64 (i : Int)) (z12 ov) ?_)
 refine D2.pv (.slice (some ⟨b, 0, tg⟩) i cap) (z7z el23 sz52 ov ov (by omega) hc ht) (D2.pv (.slice (some ⟨b, 0, tg⟩) a.length cap) (z12 ov) (D2.pv (.int .i64 (j : Int)) (z12 ov) ?_))
 refine D2.pv (.slice (some ⟨b, 0 + j * z0x.sz, tg⟩) (a.length - j) (cap - j)) (z7y el23 sz52 ov ov (by omega) hc ht) (D2.lo rfl rfl (Lo.cutSl (q := 0) (i := i) (j := j) (r := z0x) rfl rfl el23 ni23 ze52 sz52 (by kernel_rfl) rfl rfl (by omega) (by omega) s) (fun _ _ _ => z0d) z0d (fun _ _ _ => z0d) ?_)
 rintro C t ⟨rfl, f⟩
 refine D2.pv (.slice (some ⟨b, 0, tg⟩) (i + (a.length - j)) cap) (z2k ov) (.nil ?_)
 have g : (a.take i ++ a.drop j).length = i + (a.length - j) := by simp; omega
 replace f : Ow G t (eSl (.slice (some ⟨b, 0, tg⟩) (a.take i ++ a.drop j).length cap) 52 z0x (a.take i ++ a.drop j) :: L) := by rw [g]; exact f
 rw [<- g]
 refine .seq (.region (W.pv (.slice (some ⟨b, 0, tg⟩) (a.take i ++ a.drop j).length cap) (z12 ov) (W.pv (.slice (some ⟨b, 0, tg⟩) (a.take i ++ a.drop j).length cap) (z12 ov) (W.pv (.int .i64 ((a.take i ++ a.drop j).length : Nat)) (z1j ov (f.slLen (j := 0) rfl) (z02 el23)) (W.pv (.int .i64 (a.length : Nat)) (z12 ov) ?_)))))
 refine W.pv (.slice (some ⟨b, 0 + (a.take i ++ a.drop j).length * z0x.sz, tg⟩) (a.length - (a.take i ++ a.drop j).length) (cap - (a.take i ++ a.drop j).length)) (z81 el23 sz52 ov ov ov (by omega) hc (by omega) ht) (W.ln (Lo.clearTail (q := 0) (l := (a.take i ++ a.drop j).length) (r := z0x) rfl rfl el23 ze52 sz52 (by kernel_rfl) rfl rfl (Nat.le_refl _) (by omega) f) ?_)
 rintro E F u
 refine .nil (.seq (.region (W.pv (.slice (some ⟨b, 0, tg⟩) (a.take i ++ a.drop j).length cap) (z12 ov) (W.pv (.slice (some ⟨b, 0, tg⟩) (a.take i ++ a.drop j).length cap) (z2k ov) (.nil (.ret ?_))))))
 exact z4a kr (.slice (some ⟨b, 0, tg⟩) (a.take i ++ a.drop j).length cap) (v1 := (.slice (some ⟨b, 0, tg⟩) (a.take i ++ a.drop j).length cap)) (by rfl) rt u (zAf _) rfl
def z1c (K : Nat) (a : List Branch) (b : Int) (c : Int) : Option (List Branch) := if 0 <= b /\ b < c /\ c <= (a.length : Int) then some (a.take b.toNat ++ a.drop c.toNat) else none
theorem z4i (m : Value) (a : List Branch) (c : Int) (d : Int) (O : Ow G H (eSl m 59 z0i a :: L)) (r : List Branch) (h : z1c K a c d = some r) :
    CRF Tryd.prog 39 [m, .int .i64 c, .int .i64 d] G H (fun k => (eSl k 59 z0i r :: L)) (fun k v x => k = v) := by
 unfold z1c at h
 obtain ⟨⟨y, z, o⟩, h⟩ := z38 h
 obtain rfl := zAa h
 obtain ⟨i, rfl⟩ : ∃ i : Nat, c = i := ⟨c.toNat, by omega⟩
 obtain ⟨j, rfl⟩ : ∃ j : Nat, d = j := ⟨d.toNat, by omega⟩
 rw [Int.toNat_natCast, Int.toNat_natCast]
 obtain ⟨b, tg, cap, rfl, hc, ht⟩ := O.slForm (q := 0) rfl (fun e => by rw [e] at o; simp at o; omega)
 have hl : zeo (.slice (some ⟨b, 0, tg⟩) a.length cap) a.length := O.slLen (j := 0) rfl
 refine CRF.og (n := 33) (fn := Tryd.f39) (by kernel_rfl) rfl rfl fun R kr => (.seq (.region (W.pv (.slice none 0 0) (z2k ov) (.nil ?_))))
 refine .seq (.region (W.pv (.slice (some ⟨b, 0, tg⟩) a.length cap) (z12 ov) (W.pv (.int .i64 (i : Int)) (z12 ov) (W.pv (.int .i64 (j : Int)) (z12 ov) (W.pv (.slice (some ⟨b, 0, tg⟩) a.length cap) (z12 ov) (W.pv (.int .i64 (a.length : Nat)) (z1j ov hl (z02 el24)) ?_))))))
 refine W.pv (.slice (some ⟨b, 0 + i * z0i.sz, some 0⟩) (j - i) (a.length - i)) (z9i el24 sz59 ov ov ov ov (by omega) (by omega) hc hc ht) (.nil ?_)
 refine .seq (.seq (.region (W.pv (.int .i64 (i : Int)) (z12 ov) (W.pv (.int .i64 (j : Int)) (z12 ov) ?_))))
 refine W.pv (.bool false) ((zgy ov ov rfl).trans (congrArg (fun q => some (Value.bool q)) (beq_eq_false_iff_ne.2 (by omega)))) (.nil (.condF rfl rfl (.skip ?_)))
 refine .seq (.region (W.pv (.slice (some ⟨b, 0, tg⟩) a.length cap) (z12 ov) (W.pv (.int .i64 (a.length : Nat)) (z1j ov hl (z02 el24)) (W.pv (.int .i64 (a.length : Nat)) (z2k ov) (.nil ?_)))))
 refine .seq (.draw2 (M := [0, 0, 3, 0, 0, 24, 63, 127]) mixed (by kernel_rfl) (by kernel_rfl) fun A B p w => ?_)
 have s := O.ext p
 refine D2.pv (.slice (some ⟨b, 0, tg⟩) a.length cap) (z12 ov) (D2.pv (.int .i64 (i : Int)) (z12 ov) ?_)
 refine D2.pv (.slice (some ⟨b, 0, tg⟩) i cap) (z7z el24 sz59 ov ov (by omega) hc ht) (D2.pv (.slice (some ⟨b, 0, tg⟩) a.length cap) (z12 ov) (D2.pv (.int .i64 (j : Int)) (z12 ov) ?_))
 refine D2.pv (.slice (some ⟨b, 0 + j * z0i.sz, tg⟩) (a.length - j) (cap - j)) (z7y el24 sz59 ov ov (by omega) hc ht) (D2.lo rfl rfl (Lo.cutSl (q := 0) (i := i) (j := j) (r := z0i) rfl rfl el24 ni24 ze59 sz59 (by kernel_rfl) rfl rfl (by omega) (by omega) s) (fun _ _ _ => z0d) z0d (fun _ _ _ => z0d) ?_)
 rintro C t ⟨rfl, f⟩
 refine D2.pv (.slice (some ⟨b, 0, tg⟩) (i + (a.length - j)) cap) (z2k ov) (.nil ?_)
 have g : (a.take i ++ a.drop j).length = i + (a.length - j) := by simp; omega
 replace f : Ow G t (eSl (.slice (some ⟨b, 0, tg⟩) (a.take i ++ a.drop j).length cap) 59 z0i (a.take i ++ a.drop j) :: L) := by rw [g]; exact f
 rw [<- g]
 refine .seq (.region (W.pv (.slice (some ⟨b, 0, tg⟩) (a.take i ++ a.drop j).length cap) (z12 ov) (W.pv (.slice (some ⟨b, 0, tg⟩) (a.take i ++ a.drop j).length cap) (z12 ov) (W.pv (.int .i64 ((a.take i ++ a.drop j).length : Nat)) (z1j ov (f.slLen (j := 0) rfl) (z02 el24)) (W.pv (.int .i64 (a.length : Nat)) (z12 ov) ?_)))))
 refine W.pv (.slice (some ⟨b, 0 + (a.take i ++ a.drop j).length * z0i.sz, tg⟩) (a.length - (a.take i ++ a.drop j).length) (cap - (a.take i ++ a.drop j).length)) (z81 el24 sz59 ov ov ov (by omega) hc (by omega) ht) (W.ln (Lo.clearTail (q := 0) (l := (a.take i ++ a.drop j).length) (r := z0i) rfl rfl el24 ze59 sz59 (by kernel_rfl) rfl rfl (Nat.le_refl _) (by omega) f) ?_)
 rintro E F u
 refine .nil (.seq (.region (W.pv (.slice (some ⟨b, 0, tg⟩) (a.take i ++ a.drop j).length cap) (z12 ov) (W.pv (.slice (some ⟨b, 0, tg⟩) (a.take i ++ a.drop j).length cap) (z2k ov) (.nil (.ret ?_))))))
 exact z4a kr (.slice (some ⟨b, 0, tg⟩) (a.take i ++ a.drop j).length cap) (v1 := (.slice (some ⟨b, 0, tg⟩) (a.take i ++ a.drop j).length cap)) (by rfl) rt u (zAf _) rfl
def z1x (K : Nat) (a : List Gen) (b : Int) (c : Int) : Option (List Gen) := if 0 <= b /\ b < c /\ c <= (a.length : Int) then some (a.take b.toNat ++ a.drop c.toNat) else none
theorem z5k (m : Value) (a : List Gen) (c : Int) (d : Int) (O : Ow G H (eSl m 67 z6b a :: L)) (r : List Gen) (h : z1x K a c d = some r) :
    CRF Tryd.prog 40 [m, .int .i64 c, .int .i64 d] G H (fun k => (eSl k 67 z6b r :: L)) (fun k v x => k = v) := by
 unfold z1x at h
 obtain ⟨⟨y, z, o⟩, h⟩ := z38 h
 obtain rfl := zAa h
 obtain ⟨i, rfl⟩ : ∃ i : Nat, c = i := ⟨c.toNat, by omega⟩
 obtain ⟨j, rfl⟩ : ∃ j : Nat, d = j := ⟨d.toNat, by omega⟩
 rw [Int.toNat_natCast, Int.toNat_natCast]
 obtain ⟨b, tg, cap, rfl, hc, ht⟩ := O.slForm (q := 0) rfl (fun e => by rw [e] at o; simp at o; omega)
 have hl : zeo (.slice (some ⟨b, 0, tg⟩) a.length cap) a.length := O.slLen (j := 0) rfl
 refine CRF.og (n := 33) (fn := Tryd.f40) (by kernel_rfl) rfl rfl fun R kr => (.seq (.region (W.pv (.slice none 0 0) (z2k ov) (.nil ?_))))
 refine .seq (.region (W.pv (.slice (some ⟨b, 0, tg⟩) a.length cap) (z12 ov) (W.pv (.int .i64 (i : Int)) (z12 ov) (W.pv (.int .i64 (j : Int)) (z12 ov) (W.pv (.slice (some ⟨b, 0, tg⟩) a.length cap) (z12 ov) (W.pv (.int .i64 (a.length : Nat)) (z1j ov hl (z02 el25)) ?_))))))
 refine W.pv (.slice (some ⟨b, 0 + i * z6b.sz, some 0⟩) (j - i) (a.length - i)) (z9i el25 sz67 ov ov ov ov (by omega) (by omega) hc hc ht) (.nil ?_)
 refine .seq (.seq (.region (W.pv (.int .i64 (i : Int)) (z12 ov) (W.pv (.int .i64 (j : Int)) (z12 ov) ?_))))
 refine W.pv (.bool false) ((zgy ov ov rfl).trans (congrArg (fun q => some (Value.bool q)) (beq_eq_false_iff_ne.2 (by omega)))) (.nil (.condF rfl rfl (.skip ?_)))
 refine .seq (.region (W.pv (.slice (some ⟨b, 0, tg⟩) a.length cap) (z12 ov) (W.pv (.int .i64 (a.length : Nat)) (z1j ov hl (z02 el25)) (W.pv (.int .i64 (a.length : Nat)) (z2k ov) (.nil ?_)))))
 refine .seq (.draw2 (M := [0, 0, 3, 0, 0, 24, 63, 127]) mixed (by kernel_rfl) (by kernel_rfl) fun A B p w => ?_)
 have s := O.ext p
 refine D2.pv (.slice (some ⟨b, 0, tg⟩) a.length cap) (z12 ov) (D2.pv (.int .i64 (i : Int)) (z12 ov) ?_)
 refine D2.pv (.slice (some ⟨b, 0, tg⟩) i cap) (z7z el25 sz67 ov ov (by omega) hc ht) (D2.pv (.slice (some ⟨b, 0, tg⟩) a.length cap) (z12 ov) (D2.pv (.int .i64 (j : Int)) (z12 ov) ?_))
 refine D2.pv (.slice (some ⟨b, 0 + j * z6b.sz, tg⟩) (a.length - j) (cap - j)) (z7y el25 sz67 ov ov (by omega) hc ht) (D2.lo rfl rfl (Lo.cutSl (q := 0) (i := i) (j := j) (r := z6b) rfl rfl el25 ni25 ze67 sz67 (by kernel_rfl) rfl rfl (by omega) (by omega) s) (fun _ _ _ => z0d) z0d (fun _ _ _ => z0d) ?_)
 rintro C t ⟨rfl, f⟩
 refine D2.pv (.slice (some ⟨b, 0, tg⟩) (i + (a.length - j)) cap) (z2k ov) (.nil ?_)
 have g : (a.take i ++ a.drop j).length = i + (a.length - j) := by simp; omega
 replace f : Ow G t (eSl (.slice (some ⟨b, 0, tg⟩) (a.take i ++ a.drop j).length cap) 67 z6b (a.take i ++ a.drop j) :: L) := by rw [g]; exact f
 rw [<- g]
 refine .seq (.region (W.pv (.slice (some ⟨b, 0, tg⟩) (a.take i ++ a.drop j).length cap) (z12 ov) (W.pv (.slice (some ⟨b, 0, tg⟩) (a.take i ++ a.drop j).length cap) (z12 ov) (W.pv (.int .i64 ((a.take i ++ a.drop j).length : Nat)) (z1j ov (f.slLen (j := 0) rfl) (z02 el25)) (W.pv (.int .i64 (a.length : Nat)) (z12 ov) ?_)))))
 refine W.pv (.slice (some ⟨b, 0 + (a.take i ++ a.drop j).length * z6b.sz, tg⟩) (a.length - (a.take i ++ a.drop j).length) (cap - (a.take i ++ a.drop j).length)) (z81 el25 sz67 ov ov ov (by omega) hc (by omega) ht) (W.ln (Lo.clearTail (q := 0) (l := (a.take i ++ a.drop j).length) (r := z6b) rfl rfl el25 ze67 sz67 (by kernel_rfl) rfl rfl (Nat.le_refl _) (by omega) f) ?_)
 rintro E F u
 refine .nil (.seq (.region (W.pv (.slice (some ⟨b, 0, tg⟩) (a.take i ++ a.drop j).length cap) (z12 ov) (W.pv (.slice (some ⟨b, 0, tg⟩) (a.take i ++ a.drop j).length cap) (z2k ov) (.nil (.ret ?_))))))
 exact z4a kr (.slice (some ⟨b, 0, tg⟩) (a.take i ++ a.drop j).length cap) (v1 := (.slice (some ⟨b, 0, tg⟩) (a.take i ++ a.drop j).length cap)) (by rfl) rt u (zAf _) rfl
def z1m (K : Nat) (a : List Load_) (b : Int) (c : Int) : Option (List Load_) := if 0 <= b /\ b < c /\ c <= (a.length : Int) then some (a.take b.toNat ++ a.drop c.toNat) else none
theorem z58 (m : Value) (a : List Load_) (c : Int) (d : Int) (O : Ow G H (eSl m 71 z1w a :: L)) (r : List Load_) (h : z1m K a c d = some r) :
    CRF Tryd.prog 41 [m, .int .i64 c, .int .i64 d] G H (fun k => (eSl k 71 z1w r :: L)) (fun k v x => k = v) := by
 unfold z1m at h
 obtain ⟨⟨y, z, o⟩, h⟩ := z38 h
 obtain rfl := zAa h
 obtain ⟨i, rfl⟩ : ∃ i : Nat, c = i := ⟨c.toNat, by omega⟩
 obtain ⟨j, rfl⟩ : ∃ j : Nat, d = j := ⟨d.toNat, by omega⟩
 rw [Int.toNat_natCast, Int.toNat_natCast]
 obtain ⟨b, tg, cap, rfl, hc, ht⟩ := O.slForm (q := 0) rfl (fun e => by rw [e] at o; simp at o; omega)
 have hl : zeo (.slice (some ⟨b, 0, tg⟩) a.length cap) a.length := O.slLen (j := 0) rfl
 refine CRF.og (n := 33) (fn := Tryd.f41) (by kernel_rfl) rfl rfl fun R kr => (.seq (.region (W.pv (.slice none 0 0) (z2k ov) (.nil ?_))))
 refine .seq (.region (W.pv (.slice (some ⟨b, 0, tg⟩) a.length cap) (z12 ov) (W.pv (.int .i64 (i : Int)) (z12 ov) (W.pv (.int .i64 (j : Int)) (z12 ov) (W.pv (.slice (some ⟨b, 0, tg⟩) a.length cap) (z12 ov) (W.pv (.int .i64 (a.length : Nat)) (z1j ov hl (z02 el26)) ?_))))))
 refine W.pv (.slice (some ⟨b, 0 + i * z1w.sz, some 0⟩) (j - i) (a.length - i)) (z9i el26 sz71 ov ov ov ov (by omega) (by omega) hc hc ht) (.nil ?_)
 refine .seq (.seq (.region (W.pv (.int .i64 (i : Int)) (z12 ov) (W.pv (.int .i64 (j : Int)) (z12 ov) ?_))))
 refine W.pv (.bool false) ((zgy ov ov rfl).trans (congrArg (fun q => some (Value.bool q)) (beq_eq_false_iff_ne.2 (by omega)))) (.nil (.condF rfl rfl (.skip ?_)))
 refine .seq (.region (W.pv (.slice (some ⟨b, 0, tg⟩) a.length cap) (z12 ov) (W.pv (.int .i64 (a.length : Nat)) (z1j ov hl (z02 el26)) (W.pv (.int .i64 (a.length : Nat)) (z2k ov) (.nil ?_)))))
 refine .seq (.draw2 (M := [0, 0, 3, 0, 0, 24, 63, 127]) mixed (by kernel_rfl) (by kernel_rfl) fun A B p w => ?_)
 have s := O.ext p
 refine D2.pv (.slice (some ⟨b, 0, tg⟩) a.length cap) (z12 ov) (D2.pv (.int .i64 (i : Int)) (z12 ov) ?_)
 refine D2.pv (.slice (some ⟨b, 0, tg⟩) i cap) (z7z el26 sz71 ov ov (by omega) hc ht) (D2.pv (.slice (some ⟨b, 0, tg⟩) a.length cap) (z12 ov) (D2.pv (.int .i64 (j : Int)) (z12 ov) ?_))
 refine D2.pv (.slice (some ⟨b, 0 + j * z1w.sz, tg⟩) (a.length - j) (cap - j)) (z7y el26 sz71 ov ov (by omega) hc ht) (D2.lo rfl rfl (Lo.cutSl (q := 0) (i := i) (j := j) (r := z1w) rfl rfl el26 ni26 ze71 sz71 (by kernel_rfl) rfl rfl (by omega) (by omega) s) (fun _ _ _ => z0d) z0d (fun _ _ _ => z0d) ?_)
 rintro C t ⟨rfl, f⟩
 refine D2.pv (.slice (some ⟨b, 0, tg⟩) (i + (a.length - j)) cap) (z2k ov) (.nil ?_)
 have g : (a.take i ++ a.drop j).length = i + (a.length - j) := by simp; omega
 replace f : Ow G t (eSl (.slice (some ⟨b, 0, tg⟩) (a.take i ++ a.drop j).length cap) 71 z1w (a.take i ++ a.drop j) :: L) := by rw [g]; exact f
 rw [<- g]
 refine .seq (.region (W.pv (.slice (some ⟨b, 0, tg⟩) (a.take i ++ a.drop j).length cap) (z12 ov) (W.pv (.slice (some ⟨b, 0, tg⟩) (a.take i ++ a.drop j).length cap) (z12 ov) (W.pv (.int .i64 ((a.take i ++ a.drop j).length : Nat)) (z1j ov (f.slLen (j := 0) rfl) (z02 el26)) (W.pv (.int .i64 (a.length : Nat)) (z12 ov) ?_)))))
 refine W.pv (.slice (some ⟨b, 0 + (a.take i ++ a.drop j).length * z1w.sz, tg⟩) (a.length - (a.take i ++ a.drop j).length) (cap - (a.take i ++ a.drop j).length)) (z81 el26 sz71 ov ov ov (by omega) hc (by omega) ht) (W.ln (Lo.clearTail (q := 0) (l := (a.take i ++ a.drop j).length) (r := z1w) rfl rfl el26 ze71 sz71 (by kernel_rfl) rfl rfl (Nat.le_refl _) (by omega) f) ?_)
 rintro E F u
 refine .nil (.seq (.region (W.pv (.slice (some ⟨b, 0, tg⟩) (a.take i ++ a.drop j).length cap) (z12 ov) (W.pv (.slice (some ⟨b, 0, tg⟩) (a.take i ++ a.drop j).length cap) (z2k ov) (.nil (.ret ?_))))))
 exact z4a kr (.slice (some ⟨b, 0, tg⟩) (a.take i ++ a.drop j).length cap) (v1 := (.slice (some ⟨b, 0, tg⟩) (a.take i ++ a.drop j).length cap)) (by rfl) rt u (zAf _) rfl
def z1g (K : Nat) (a : List Store) (b : Int) (c : Int) : Option (List Store) := if 0 <= b /\ b < c /\ c <= (a.length : Int) then some (a.take b.toNat ++ a.drop c.toNat) else none
theorem z4u (m : Value) (a : List Store) (c : Int) (d : Int) (O : Ow G H (eSl m 75 z1o a :: L)) (r : List Store) (h : z1g K a c d = some r) :
    CRF Tryd.prog 42 [m, .int .i64 c, .int .i64 d] G H (fun k => (eSl k 75 z1o r :: L)) (fun k v x => k = v) := by
 unfold z1g at h
 obtain ⟨⟨y, z, o⟩, h⟩ := z38 h
 obtain rfl := zAa h
 obtain ⟨i, rfl⟩ : ∃ i : Nat, c = i := ⟨c.toNat, by omega⟩
 obtain ⟨j, rfl⟩ : ∃ j : Nat, d = j := ⟨d.toNat, by omega⟩
 rw [Int.toNat_natCast, Int.toNat_natCast]
 obtain ⟨b, tg, cap, rfl, hc, ht⟩ := O.slForm (q := 0) rfl (fun e => by rw [e] at o; simp at o; omega)
 have hl : zeo (.slice (some ⟨b, 0, tg⟩) a.length cap) a.length := O.slLen (j := 0) rfl
 refine CRF.og (n := 33) (fn := Tryd.f42) (by kernel_rfl) rfl rfl fun R kr => (.seq (.region (W.pv (.slice none 0 0) (z2k ov) (.nil ?_))))
 refine .seq (.region (W.pv (.slice (some ⟨b, 0, tg⟩) a.length cap) (z12 ov) (W.pv (.int .i64 (i : Int)) (z12 ov) (W.pv (.int .i64 (j : Int)) (z12 ov) (W.pv (.slice (some ⟨b, 0, tg⟩) a.length cap) (z12 ov) (W.pv (.int .i64 (a.length : Nat)) (z1j ov hl (z02 el27)) ?_))))))
 refine W.pv (.slice (some ⟨b, 0 + i * z1o.sz, some 0⟩) (j - i) (a.length - i)) (z9i el27 sz75 ov ov ov ov (by omega) (by omega) hc hc ht) (.nil ?_)
 refine .seq (.seq (.region (W.pv (.int .i64 (i : Int)) (z12 ov) (W.pv (.int .i64 (j : Int)) (z12 ov) ?_))))
 refine W.pv (.bool false) ((zgy ov ov rfl).trans (congrArg (fun q => some (Value.bool q)) (beq_eq_false_iff_ne.2 (by omega)))) (.nil (.condF rfl rfl (.skip ?_)))
 refine .seq (.region (W.pv (.slice (some ⟨b, 0, tg⟩) a.length cap) (z12 ov) (W.pv (.int .i64 (a.length : Nat)) (z1j ov hl (z02 el27)) (W.pv (.int .i64 (a.length : Nat)) (z2k ov) (.nil ?_)))))
 refine .seq (.draw2 (M := [0, 0, 3, 0, 0, 24, 63, 127]) mixed (by kernel_rfl) (by kernel_rfl) fun A B p w => ?_)
 have s := O.ext p
 refine D2.pv (.slice (some ⟨b, 0, tg⟩) a.length cap) (z12 ov) (D2.pv (.int .i64 (i : Int)) (z12 ov) ?_)
 refine D2.pv (.slice (some ⟨b, 0, tg⟩) i cap) (z7z el27 sz75 ov ov (by omega) hc ht) (D2.pv (.slice (some ⟨b, 0, tg⟩) a.length cap) (z12 ov) (D2.pv (.int .i64 (j : Int)) (z12 ov) ?_))
 refine D2.pv (.slice (some ⟨b, 0 + j * z1o.sz, tg⟩) (a.length - j) (cap - j)) (z7y el27 sz75 ov ov (by omega) hc ht) (D2.lo rfl rfl (Lo.cutSl (q := 0) (i := i) (j := j) (r := z1o) rfl rfl el27 ni27 ze75 sz75 (by kernel_rfl) rfl rfl (by omega) (by omega) s) (fun _ _ _ => z0d) z0d (fun _ _ _ => z0d) ?_)
 rintro C t ⟨rfl, f⟩
 refine D2.pv (.slice (some ⟨b, 0, tg⟩) (i + (a.length - j)) cap) (z2k ov) (.nil ?_)
 have g : (a.take i ++ a.drop j).length = i + (a.length - j) := by simp; omega
 replace f : Ow G t (eSl (.slice (some ⟨b, 0, tg⟩) (a.take i ++ a.drop j).length cap) 75 z1o (a.take i ++ a.drop j) :: L) := by rw [g]; exact f
 rw [<- g]
 refine .seq (.region (W.pv (.slice (some ⟨b, 0, tg⟩) (a.take i ++ a.drop j).length cap) (z12 ov) (W.pv (.slice (some ⟨b, 0, tg⟩) (a.take i ++ a.drop j).length cap) (z12 ov) (W.pv (.int .i64 ((a.take i ++ a.drop j).length : Nat)) (z1j ov (f.slLen (j := 0) rfl) (z02 el27)) (W.pv (.int .i64 (a.length : Nat)) (z12 ov) ?_)))))
 refine W.pv (.slice (some ⟨b, 0 + (a.take i ++ a.drop j).length * z1o.sz, tg⟩) (a.length - (a.take i ++ a.drop j).length) (cap - (a.take i ++ a.drop j).length)) (z81 el27 sz75 ov ov ov (by omega) hc (by omega) ht) (W.ln (Lo.clearTail (q := 0) (l := (a.take i ++ a.drop j).length) (r := z1o) rfl rfl el27 ze75 sz75 (by kernel_rfl) rfl rfl (Nat.le_refl _) (by omega) f) ?_)
 rintro E F u
 refine .nil (.seq (.region (W.pv (.slice (some ⟨b, 0, tg⟩) (a.take i ++ a.drop j).length cap) (z12 ov) (W.pv (.slice (some ⟨b, 0, tg⟩) (a.take i ++ a.drop j).length cap) (z2k ov) (.nil (.ret ?_))))))
 exact z4a kr (.slice (some ⟨b, 0, tg⟩) (a.take i ++ a.drop j).length cap) (v1 := (.slice (some ⟨b, 0, tg⟩) (a.take i ++ a.drop j).length cap)) (by rfl) rt u (zAf _) rfl
theorem zbd {G : GM}   : ∃ cs : List Value, (∀ {s : List Value} {d : Tmp} {ty : TypeId} {pos : String} {af : Array Edge} {g : Option (Nat × Bool)} {ps : Array (Nat × Operand)}, zcq s ps.toList = some [] -> z32 Tryd.prog s ⟨some d, .build 29 ps, ty, pos, af, g⟩ = some (.agg cs.toArray)) /\ z00.rep G cs (Network.mk ([] : List zAd) ([] : List Switch) ([] : List Branch) ([] : List Gen) ([] : List Load_) ([] : List Store)) := by
  refine ⟨_, fun {s d ty pos af g ps} hps => zbx pl29 ze29 zo29 hps ?_, z6n G⟩
  rfl
def z2n (K : Nat) (j : Network) (l : zAd) : Option (Network × Int) := ((z2o K j l).bind fun a => (if (a.2.2 != 0) = true then some ((Network.mk ([] : List zAd) ([] : List Switch) ([] : List Branch) ([] : List Gen) ([] : List Load_) ([] : List Store)), a.2.2) else ((z42 K j).bind fun b => (z66 ((if (sEq a.1 (⟨#[110, 111, 100, 101]⟩ : zAd)) = true then some (.inl ((Network.mk ([] : List zAd) ([] : List Switch) ([] : List Branch) ([] : List Gen) ([] : List Load_) ([] : List Store)), 1)) else (if (sEq a.1 (⟨#[115, 119, 105, 116, 99, 104]⟩ : zAd)) = true then ((z1b K b.Switches a.2.1 (z0u .i64 (a.2.1 + 1))).bind fun k => some (.inr ({ b with Switches := k }))) else (if (sEq a.1 (⟨#[98, 114, 97, 110, 99, 104]⟩ : zAd)) = true then ((z1c K b.Branches a.2.1 (z0u .i64 (a.2.1 + 1))).bind fun c => some (.inr ({ b with Branches := c }))) else (if (sEq a.1 (⟨#[103, 101, 110]⟩ : zAd)) = true then ((z1x K b.Gens a.2.1 (z0u .i64 (a.2.1 + 1))).bind fun d => some (.inr ({ b with Gens := d }))) else (if (sEq a.1 (⟨#[108, 111, 97, 100]⟩ : zAd)) = true then ((z1m K b.Loads a.2.1 (z0u .i64 (a.2.1 + 1))).bind fun e => some (.inr ({ b with Loads := e }))) else ((z1g K b.Stores a.2.1 (z0u .i64 (a.2.1 + 1))).bind fun f => some (.inr ({ b with Stores := f }))))))))) (tu2 fun g h => some (g, h)) (tu1 fun i => some (i, 0))))))
theorem z8b (a3 : List Value) (aa : Network) (cK : z00.rep G a3 aa) (aH : zAd) (O : Ow G H (L)) (r : Network × Int) (h : z2n K aa aH = some r) :
    CR Tryd.prog 7 [.agg a3.toArray, (.string aH)] G H (L) (fun v aI _ => ∃ (cL : List Value), v = .tuple #[.agg cL.toArray, .int .i64 r.2] /\ z00.rep aI cL r.1) := by
 unfold z2n at h
 refine CR.og (n := 71) (fn := Tryd.f7) (by kernel_rfl) rfl rfl fun R kr => (.seq (.region (W.ln (Lo.box (r := z00) (x0 := aa) (v := (.agg a3.toArray)) rfl rfl cK O) ?_)))
 rintro eU eV ⟨dy, rfl, dz, eD⟩
 refine W.ln (Lo.alloc (r := z00) (x0 := (Network.mk ([] : List zAd) ([] : List Switch) ([] : List Branch) ([] : List Gen) ([] : List Load_) ([] : List Store))) ze29 (by kernel_rfl) z6n dz) ?_
 rintro eW eE ⟨aJ, rfl, cM, eF⟩
 refine W.p1 (.int .i64 0) (.nil (.seq (.region ?_)))
 obtain ⟨aK, cN, aL⟩ := (cM.atVar (j := 1) rfl)
 refine W.loadA (cs := aK) rfl rfl ag29 sz29 (z0f rfl cN) (RT.len _ aL) (W.p2 (.string aH) ?_)
 obtain ⟨a, cO, aM⟩ := z03 h
 refine W.ln (Lo.cQ Tryd.f5 (mc rfl (mc rfl mn)) cM (fun ab g => z5r K aK aa aL aH g _ cO)) ?_
 rintro eG eH ⟨cP, ac, ad, dA, rfl⟩
 refine W.p2 (.tuple #[(.string a.1), (.int .i64 a.2.1), (.int .i64 a.2.2)]) (W.pv (.string a.1) (z39 ov rfl) (W.pv (.int .i64 a.2.1) (z39 ov rfl) (W.pv (.int .i64 a.2.2) (z39 ov rfl) (W.p1 (.string a.1) (W.p1 (.int .i64 a.2.1) (W.p1 (.int .i64 a.2.2) ?_))))))
 refine .nil (.seq (.seq (.region (W.p2 (.int .i64 a.2.2) (W.p3 (.bool (a.2.2 != 0)) (.nil ?_))))))
 refine .cond (b := (a.2.2 != 0)) rfl rfl (fun ae => ?_) (fun ae => ?_)
 .have cR := z01 ae aM
  refine .seq (.region ?_)
  obtain ⟨aN, cS, cT⟩ := zbd (G := cP)
  refine W.pv (.agg aN.toArray) (cS (z4t rfl qn')) (W.p2 (.int .i64 a.2.2) (W.ln (Lo.storeVar (j := 0) (s := z00) (y0 := (Network.mk ([] : List zAd) ([] : List Switch) ([] : List Branch) ([] : List Gen) ([] : List Load_) ([] : List Store))) (v := (.agg aN.toArray)) (o := 0) rfl ((Put.at (Put.self _) _ _)) rfl sz29 rfl (by omega) rfl cT ac) ?_))
  rintro eI eJ ⟨aO, dB⟩
  refine W.p1 (.int .i64 a.2.2) (.nil (.ret ?_))
  obtain ⟨aP, cU, aQ⟩ := (aO.atVar (j := 0) rfl)
  have cV := (aO.drop 0).drop 0
  obtain rfl := zAa cR
  exact zhr kr (v1 := (.agg aP.toArray)) (v2 := (.int .i64 a.2.2)) (by rfl) (z8i (p := (.pointer (some ⟨aJ, 0, none⟩))) (by rfl) ag29 sz29 (by exact rfl) cU (RT.len _ aQ)) rt cV ad ⟨aP, rfl, aQ⟩
 have cW := z11 ae aM
 refine .skip (.seq (.region ?_))
 obtain ⟨aR, cX, aS⟩ := (ac.atVar (j := 1) rfl)
 refine W.loadA (cs := aR) rfl rfl ag29 sz29 (z0f rfl cX) (RT.len _ aS) ?_
 obtain ⟨c, cY, cZ⟩ := z03 cW
 refine W.ln (Lo.qF Tryd.f22 (ps := []) (pw := fun w => [_, _, _, _, _, _]) (mc rfl mn) ac (fun ab g => z6z K aR aa aS g _ cY)) ?_
 rintro eK eL ⟨d, aT, c0, aU, dC, ⟨c1, rfl, c2⟩⟩
 refine W.ln (Lo.alloc (r := z00) (x0 := (Network.mk ([] : List zAd) ([] : List Switch) ([] : List Branch) ([] : List Gen) ([] : List Load_) ([] : List Store))) ze29 (by kernel_rfl) z6n c0) ?_
 rintro eM eN ⟨f, rfl, c3, dD⟩
 refine W.ln (Lo.storeW (j := 0) (r := z00) (s := z18) (y0 := (c, (oV d 0), (oV d 1), (oV d 2), (oV d 3), (oV d 4), (oV d 5))) (v := (.agg c1.toArray)) rfl rfl rfl sz29 rfl rfl c2 c3) ?_
 rintro eO eP ⟨e, dE⟩
 refine .nil (.seq (.seq (.region (W.p2 (.string a.1) (.nil ?_)))))
 obtain ⟨c4, aV, aW⟩ := z2f cZ
 refine AW.midT (fun eQ dF => ∃ (c5 : Network) (aI : GM), (.inr c5) = c4 /\ Ow aI dF (eVar f 29 z00 c5 :: eVar aJ 29 z00 (Network.mk ([] : List zAd) ([] : List Switch) ([] : List Branch) ([] : List Gen) ([] : List Load_) ([] : List Store)) :: eVar dy 29 z00 aa :: L) /\ GM.le aT aI) ?_ ?_
 rotate_left
 .rintro dl dG A ⟨a4, dH, rfl, af, a5⟩
  have a6 := z0k (z67 aW)
  refine .seq (.region ?_)
  obtain ⟨ag, a7, ah⟩ := (af.atVar (j := 0) rfl)
  refine W.loadA (cs := ag) rfl rfl ag29 sz29 (z0f (ft (A 9 rfl) rfl) a7) (RT.len _ ah) (W.ln (Lo.storeVar (j := 1) (s := z00) (y0 := a4) (v := (.agg ag.toArray)) (o := 0) rfl ((Put.at (Put.self _) _ _)) rfl sz29 (ft (A 4 rfl) rfl) (by omega) rfl ah af) ?_)
  rintro dI dJ ⟨ai, dm⟩
  refine W.p1 (.int .i64 0) (.nil (.ret ?_))
  obtain ⟨aj, a8, ak⟩ := (ai.atVar (j := 1) rfl)
  have a9 := ((ai.drop 0).drop 0).drop 0
  obtain rfl := zAa a6
  exact zhr kr (v1 := (.agg aj.toArray)) (v2 := (.int .i64 0)) (by rfl) (z8i (p := (.pointer (some ⟨aJ, 0, none⟩))) (by rfl) ag29 sz29 (by exact (ft (A 4 rfl) rfl)) a8 (RT.len _ ak)) rt a9 (zAe ad (zAe aU a5)) ⟨aj, rfl, ak⟩
 refine .block (.seq (.region (W.pv (.bool (sEq a.1 (⟨#[110, 111, 100, 101]⟩ : zAd))) (z69 ov ov) (W.p1 (.bool (sEq a.1 (⟨#[110, 111, 100, 101]⟩ : zAd))) (.nil (.cond (b := sEq a.1 (⟨#[110, 111, 100, 101]⟩ : zAd)) rfl rfl (fun al => ?_) (fun al => ?_)))))))
 .have c6 := z01 al aV
  refine .seq (.region ?_)
  obtain ⟨aX, c7, c8⟩ := zbd (G := aT)
  refine W.pv (.agg aX.toArray) (c7 (z4t rfl qn')) (W.ln (Lo.storeVar (j := 7) (s := z00) (y0 := (Network.mk ([] : List zAd) ([] : List Switch) ([] : List Branch) ([] : List Gen) ([] : List Load_) ([] : List Store))) (v := (.agg aX.toArray)) (o := 0) rfl ((Put.at (Put.self _) _ _)) rfl sz29 rfl (by omega) rfl c8 e) ?_)
  rintro eR eS ⟨aY, dK⟩
  refine W.p1 (.int .i64 1) (.nil (.ret ?_))
  obtain ⟨aZ, c9, a0⟩ := (aY.atVar (j := 7) rfl)
  have da := ((((((((aY.drop 0).drop 0).drop 0).drop 0).drop 0).drop 0).drop 0).drop 0).drop 0
  obtain rfl := zAa c6
  have db := z68 (z4x aW)
  obtain rfl := zAa db
  exact zhr kr (v1 := (.agg aZ.toArray)) (v2 := (.int .i64 1)) (by rfl) (z8i (p := (.pointer (some ⟨aJ, 0, none⟩))) (by rfl) ag29 sz29 (by exact rfl) c9 (RT.len _ a0)) rt da (zAe ad aU) ⟨aZ, rfl, a0⟩
 have a1 := z11 al aV
 refine .seq (.region (W.pv (.bool (sEq a.1 (⟨#[115, 119, 105, 116, 99, 104]⟩ : zAd))) (z69 ov ov) (W.p1 (.bool (sEq a.1 (⟨#[115, 119, 105, 116, 99, 104]⟩ : zAd))) (.nil (.cond (b := sEq a.1 (⟨#[115, 119, 105, 116, 99, 104]⟩ : zAd)) rfl rfl (fun am => ?_) (fun am => ?_))))))
 .have dc := z01 am a1
  refine .region (W.pv (padd (.pointer (some ⟨f, 0, none⟩)) 1) (z0a z86 ov (e.atVar (j := 0) rfl)) (W.l1 (oV d 1) ag23 (z0f rfl (At.raw (At.proj (e.atVar (j := 0) rfl) z30))) (W.p2 (.int .i64 a.2.1) (W.p2 (.int .i64 a.2.1) (W.p3 (.int .i64 (z0u .i64 (a.2.1 + 1))) ?_)))))
  have dd := e.front (j := 2) rfl
  obtain ⟨a2, de, df⟩ := z03 dc
  refine W.ln (Lo.qF Tryd.f38 (ps := [_]) (pw := fun w => [_]) (mc rfl (mc rfl (mc rfl mn))) dd (fun ab g => z4h K (oV d 1) c.Switches a.2.1 (z0u .i64 (a.2.1 + 1)) g _ de)) ?_
  rintro dL dM ⟨an, eT, ao, ba, dn, rfl⟩
  refine W.pv (padd (.pointer (some ⟨f, 0, none⟩)) 1) (z0a z86 ov (ao.atVar (j := 1) rfl)) (W.ln (Lo.storeVar (j := 1) (s := rV) (y0 := an) (v := an) (o := 1) rfl ((Put.at z61 _ _)) rfl sz23 rfl (by omega) rfl (zcn (ao.slLen (j := 0) rfl)) ao) ?_)
  rintro dN dO ⟨bb, dp⟩
  obtain ⟨dP, bc, bd, be⟩ := bb.frzSl (j := 2) rfl
  obtain ⟨dQ, bf, ap, bg⟩ := bc.frzSl (j := 0) rfl
  obtain ⟨dR, bh, J, bi⟩ := bf.frzSl (j := 1) rfl
  obtain ⟨dS, bj, B, bk⟩ := bh.frzSl (j := 1) rfl
  obtain ⟨dT, bl, t, bm⟩ := bj.frzSl (j := 1) rfl
  obtain ⟨dU, bn, i, bo⟩ := bl.frzSl (j := 1) rfl
  have dg := zAe ba (zAe bd (zAe ap (zAe J (zAe B (zAe t i)))))
  have bp := bn.recell (s := z00) (y0 := { c with Switches := a2 }) (j := 0) rfl (fun cs h => z1p h (RT.mono _ (zAe ap (zAe J (zAe B (zAe t i)))) be) (RT.mono _ (zAe J (zAe B (zAe t i))) bg) (RT.mono _ (zAe B (zAe t i)) bi) (RT.mono _ (zAe t i) bk) (RT.mono _ i bm) bo)
  refine .nil ?_
  obtain rfl := zAa df
  exact ⟨{ c with Switches := a2 }, _, rfl, bp, dg⟩
 have aq := z11 am a1
 refine .seq (.region (W.pv (.bool (sEq a.1 (⟨#[98, 114, 97, 110, 99, 104]⟩ : zAd))) (z69 ov ov) (W.p1 (.bool (sEq a.1 (⟨#[98, 114, 97, 110, 99, 104]⟩ : zAd))) (.nil (.cond (b := sEq a.1 (⟨#[98, 114, 97, 110, 99, 104]⟩ : zAd)) rfl rfl (fun M => ?_) (fun M => ?_))))))
 .have bq := z01 M aq
  refine .region (W.pv (padd (.pointer (some ⟨f, 0, none⟩)) 2) (z0a zb1 ov (e.atVar (j := 0) rfl)) (W.l1 (oV d 2) ag24 (z0f rfl (At.raw (At.proj (e.atVar (j := 0) rfl) z8a))) (W.p2 (.int .i64 a.2.1) (W.p2 (.int .i64 a.2.1) (W.p3 (.int .i64 (z0u .i64 (a.2.1 + 1))) ?_)))))
  have br := e.front (j := 3) rfl
  obtain ⟨ar, bs, bt⟩ := z03 bq
  refine W.ln (Lo.qF Tryd.f39 (ps := [_]) (pw := fun w => [_]) (mc rfl (mc rfl (mc rfl mn))) br (fun ab g => z4i K (oV d 2) c.Branches a.2.1 (z0u .i64 (a.2.1 + 1)) g _ bs)) ?_
  rintro dV dW ⟨au, dX, N, bu, dq, rfl⟩
  refine W.pv (padd (.pointer (some ⟨f, 0, none⟩)) 2) (z0a zb1 ov (N.atVar (j := 1) rfl)) (W.ln (Lo.storeVar (j := 1) (s := rV) (y0 := au) (v := au) (o := 2) rfl ((Put.at z62 _ _)) rfl sz24 rfl (by omega) rfl (zcn (N.slLen (j := 0) rfl)) N) ?_)
  rintro dY dZ ⟨bv, dr⟩
  obtain ⟨d0, bw, bx, bz⟩ := bv.frzSl (j := 2) rfl
  obtain ⟨d1, bA, av, bB⟩ := bw.frzSl (j := 2) rfl
  obtain ⟨d2, bC, P, bD⟩ := bA.frzSl (j := 0) rfl
  obtain ⟨d3, bE, C, bF⟩ := bC.frzSl (j := 1) rfl
  obtain ⟨d4, bG, u, bH⟩ := bE.frzSl (j := 1) rfl
  obtain ⟨d5, bI, k, bJ⟩ := bG.frzSl (j := 1) rfl
  have dh := zAe bu (zAe bx (zAe av (zAe P (zAe C (zAe u k)))))
  have bK := bI.recell (s := z00) (y0 := { c with Branches := ar }) (j := 0) rfl (fun cs h => z1p h (RT.mono _ (zAe av (zAe P (zAe C (zAe u k)))) bz) (RT.mono _ (zAe P (zAe C (zAe u k))) bB) (RT.mono _ (zAe C (zAe u k)) bD) (RT.mono _ (zAe u k) bF) (RT.mono _ k bH) bJ)
  refine .nil ?_
  obtain rfl := zAa bt
  exact ⟨{ c with Branches := ar }, _, rfl, bK, dh⟩
 have aw := z11 M aq
 refine .seq (.region (W.pv (.bool (sEq a.1 (⟨#[103, 101, 110]⟩ : zAd))) (z69 ov ov) (W.p1 (.bool (sEq a.1 (⟨#[103, 101, 110]⟩ : zAd))) (.nil (.cond (b := sEq a.1 (⟨#[103, 101, 110]⟩ : zAd)) rfl rfl (fun Q => ?_) (fun Q => ?_))))))
 .have bL := z01 Q aw
  refine .region (W.pv (padd (.pointer (some ⟨f, 0, none⟩)) 3) (z0a zb2 ov (e.atVar (j := 0) rfl)) (W.l1 (oV d 3) ag25 (z0f rfl (At.raw (At.proj (e.atVar (j := 0) rfl) z9y))) (W.p2 (.int .i64 a.2.1) (W.p2 (.int .i64 a.2.1) (W.p3 (.int .i64 (z0u .i64 (a.2.1 + 1))) ?_)))))
  have bM := e.front (j := 4) rfl
  obtain ⟨ax, bN, bO⟩ := z03 bL
  refine W.ln (Lo.qF Tryd.f40 (ps := [_]) (pw := fun w => [_]) (mc rfl (mc rfl (mc rfl mn))) bM (fun ab g => z5k K (oV d 3) c.Gens a.2.1 (z0u .i64 (a.2.1 + 1)) g _ bN)) ?_
  rintro d6 d7 ⟨ay, d8, S, bP, ds, rfl⟩
  refine W.pv (padd (.pointer (some ⟨f, 0, none⟩)) 3) (z0a zb2 ov (S.atVar (j := 1) rfl)) (W.ln (Lo.storeVar (j := 1) (s := rV) (y0 := ay) (v := ay) (o := 3) rfl ((Put.at z7f _ _)) rfl sz25 rfl (by omega) rfl (zcn (S.slLen (j := 0) rfl)) S) ?_)
  rintro d9 ea ⟨bQ, dt⟩
  obtain ⟨eb, bR, bS, bT⟩ := bQ.frzSl (j := 2) rfl
  obtain ⟨ec, bU, az, bV⟩ := bR.frzSl (j := 2) rfl
  obtain ⟨ed, bW, T, bX⟩ := bU.frzSl (j := 2) rfl
  obtain ⟨ee, bY, E, bZ⟩ := bW.frzSl (j := 0) rfl
  obtain ⟨ef, b0, x, b1⟩ := bY.frzSl (j := 1) rfl
  obtain ⟨eg, b2, l, b3⟩ := b0.frzSl (j := 1) rfl
  have di := zAe bP (zAe bS (zAe az (zAe T (zAe E (zAe x l)))))
  have b4 := b2.recell (s := z00) (y0 := { c with Gens := ax }) (j := 0) rfl (fun cs h => z1p h (RT.mono _ (zAe az (zAe T (zAe E (zAe x l)))) bT) (RT.mono _ (zAe T (zAe E (zAe x l))) bV) (RT.mono _ (zAe E (zAe x l)) bX) (RT.mono _ (zAe x l) bZ) (RT.mono _ l b1) b3)
  refine .nil ?_
  obtain rfl := zAa bO
  exact ⟨{ c with Gens := ax }, _, rfl, b4, di⟩
 have aA := z11 Q aw
 refine .seq (.region (W.pv (.bool (sEq a.1 (⟨#[108, 111, 97, 100]⟩ : zAd))) (z69 ov ov) (W.p1 (.bool (sEq a.1 (⟨#[108, 111, 97, 100]⟩ : zAd))) (.nil (.cond (b := sEq a.1 (⟨#[108, 111, 97, 100]⟩ : zAd)) rfl rfl (fun U => ?_) (fun U => ?_))))))
 .have b5 := z01 U aA
  refine .region (W.pv (padd (.pointer (some ⟨f, 0, none⟩)) 4) (z0a zb3 ov (e.atVar (j := 0) rfl)) (W.l1 (oV d 4) ag26 (z0f rfl (At.raw (At.proj (e.atVar (j := 0) rfl) z9n))) (W.p2 (.int .i64 a.2.1) (W.p2 (.int .i64 a.2.1) (W.p3 (.int .i64 (z0u .i64 (a.2.1 + 1))) ?_)))))
  have b6 := e.front (j := 5) rfl
  obtain ⟨aB, b7, b8⟩ := z03 b5
  refine W.ln (Lo.qF Tryd.f41 (ps := [_]) (pw := fun w => [_]) (mc rfl (mc rfl (mc rfl mn))) b6 (fun ab g => z58 K (oV d 4) c.Loads a.2.1 (z0u .i64 (a.2.1 + 1)) g _ b7)) ?_
  rintro eh ei ⟨aC, ej, V, b9, du, rfl⟩
  refine W.pv (padd (.pointer (some ⟨f, 0, none⟩)) 4) (z0a zb3 ov (V.atVar (j := 1) rfl)) (W.ln (Lo.storeVar (j := 1) (s := rV) (y0 := aC) (v := aC) (o := 4) rfl ((Put.at z6y _ _)) rfl sz26 rfl (by omega) rfl (zcn (V.slLen (j := 0) rfl)) V) ?_)
  rintro ek el ⟨ca, dv⟩
  obtain ⟨em, cb, cc, cd⟩ := ca.frzSl (j := 2) rfl
  obtain ⟨en, ce, aD, cf⟩ := cb.frzSl (j := 2) rfl
  obtain ⟨eo, cg, X, ch⟩ := ce.frzSl (j := 2) rfl
  obtain ⟨ep, ci, F, cj⟩ := cg.frzSl (j := 2) rfl
  obtain ⟨eq, ck, y, cl⟩ := ci.frzSl (j := 0) rfl
  obtain ⟨er, cm, m, cn⟩ := ck.frzSl (j := 1) rfl
  have dj := zAe b9 (zAe cc (zAe aD (zAe X (zAe F (zAe y m)))))
  have co := cm.recell (s := z00) (y0 := { c with Loads := aB }) (j := 0) rfl (fun cs h => z1p h (RT.mono _ (zAe aD (zAe X (zAe F (zAe y m)))) cd) (RT.mono _ (zAe X (zAe F (zAe y m))) cf) (RT.mono _ (zAe F (zAe y m)) ch) (RT.mono _ (zAe y m) cj) (RT.mono _ m cl) cn)
  refine .nil ?_
  obtain rfl := zAa b8
  exact ⟨{ c with Loads := aB }, _, rfl, co, dj⟩
 have cp := z11 U aA
 refine .region (W.pv (padd (.pointer (some ⟨f, 0, none⟩)) 5) (z0a zb4 ov (e.atVar (j := 0) rfl)) (W.l1 (oV d 5) ag27 (z0f rfl (At.raw (At.proj (e.atVar (j := 0) rfl) z9d))) (W.p2 (.int .i64 a.2.1) (W.p2 (.int .i64 a.2.1) (W.p3 (.int .i64 (z0u .i64 (a.2.1 + 1))) ?_)))))
 have cq := e.front (j := 6) rfl
 obtain ⟨aE, cr, ct⟩ := z03 cp
 refine W.ln (Lo.qF Tryd.f42 (ps := [_]) (pw := fun w => [_]) (mc rfl (mc rfl (mc rfl mn))) cq (fun ab g => z4u K (oV d 5) c.Stores a.2.1 (z0u .i64 (a.2.1 + 1)) g _ cr)) ?_
 rintro es et ⟨aF, eu, Y, cu, dw, rfl⟩
 refine W.pv (padd (.pointer (some ⟨f, 0, none⟩)) 5) (z0a zb4 ov (Y.atVar (j := 1) rfl)) (W.ln (Lo.storeVar (j := 1) (s := rV) (y0 := aF) (v := aF) (o := 5) rfl ((Put.at z6p _ _)) rfl sz27 rfl (by omega) rfl (zcn (Y.slLen (j := 0) rfl)) Y) ?_)
 rintro ev ew ⟨cv, dx⟩
 obtain ⟨ex, cw, cx, cy⟩ := cv.frzSl (j := 2) rfl
 obtain ⟨ey, cz, aG, cA⟩ := cw.frzSl (j := 2) rfl
 obtain ⟨ez, cB, Z, cC⟩ := cz.frzSl (j := 2) rfl
 obtain ⟨eA, cD, I, cE⟩ := cB.frzSl (j := 2) rfl
 obtain ⟨eB, cF, z, cG⟩ := cD.frzSl (j := 2) rfl
 obtain ⟨eC, cH, q, cI⟩ := cF.frzSl (j := 0) rfl
 have dk := zAe cu (zAe cx (zAe aG (zAe Z (zAe I (zAe z q)))))
 have cJ := cH.recell (s := z00) (y0 := { c with Stores := aE }) (j := 0) rfl (fun cs h => z1p h (RT.mono _ (zAe aG (zAe Z (zAe I (zAe z q)))) cy) (RT.mono _ (zAe Z (zAe I (zAe z q))) cA) (RT.mono _ (zAe I (zAe z q)) cC) (RT.mono _ (zAe z q) cE) (RT.mono _ q cG) cI)
 refine .nil ?_
 obtain rfl := zAa ct
 exact ⟨{ c with Stores := aE }, _, rfl, cJ, dk⟩
def z3v (K : Nat) (d : Network) (f : zAd) (g : Bool) : Option (Network × Int) := ((z2o K d f).bind fun a => (if (a.2.2 != 0) = true then some ({ (Network.mk ([] : List zAd) ([] : List Switch) ([] : List Branch) ([] : List Gen) ([] : List Load_) ([] : List Store)) with Nodes := [], Switches := [], Branches := [], Gens := [], Loads := [], Stores := [] }, a.2.2) else (lt (!(sEq a.1 (⟨#[115, 119, 105, 116, 99, 104]⟩ : zAd))) fun e => (if e = true then some ({ (Network.mk ([] : List zAd) ([] : List Switch) ([] : List Branch) ([] : List Gen) ([] : List Load_) ([] : List Store)) with Nodes := [], Switches := [], Branches := [], Gens := [], Loads := [], Stores := [] }, 1) else ((z42 K d).bind fun b => ((idx b.Switches a.2.1).bind fun c => some ({ b with Switches := (List.set b.Switches (a.2.1.toNat) ({ c with Open := g })) }, 0)))))))
theorem z9z (Z : List Value) (i : Network) (ai : z00.rep G Z i) (A : zAd) (k : Bool) (O : Ow G H (L)) (r : Network × Int) (h : z3v K i A k = some r) :
    CRF Tryd.prog 8 [.agg Z.toArray, (.string A), (.bool k)] G H (fun d => (eSl (oV d 0) 9 rS r.1.Nodes :: eSl (oV d 1) 52 z0x r.1.Switches :: eSl (oV d 2) 59 z0i r.1.Branches :: eSl (oV d 3) 67 z6b r.1.Gens :: eSl (oV d 4) 71 z1w r.1.Loads :: eSl (oV d 5) 75 z1o r.1.Stores :: L)) (fun d v a1 => ∃ (aj : List Value), v = .tuple #[.agg aj.toArray, .int .i64 r.2] /\ z18.rep a1 aj (r.1, oV d 0, oV d 1, oV d 2, oV d 3, oV d 4, oV d 5)) := by
 unfold z3v at h
 refine CRF.og (n := 35) (fn := Tryd.f8) (by kernel_rfl) rfl rfl fun R kr => (.seq (.region (W.ln (Lo.box (r := z00) (x0 := i) (v := (.agg Z.toArray)) rfl rfl ai O) ?_)))
 rintro bt bu ⟨bv, rfl, a2, bh⟩
 refine W.ln (Lo.alloc (r := z00) (x0 := (Network.mk ([] : List zAd) ([] : List Switch) ([] : List Branch) ([] : List Gen) ([] : List Load_) ([] : List Store))) ze29 (by kernel_rfl) z6n a2) ?_
 rintro bw bi ⟨aa, rfl, ak, bj⟩
 refine W.p1 (.int .i64 0) (.nil (.seq (.region ?_)))
 obtain ⟨B, al, C⟩ := (ak.atVar (j := 1) rfl)
 refine W.loadA (cs := B) rfl rfl ag29 sz29 (z0f rfl al) (RT.len _ C) (W.p2 (.string A) ?_)
 obtain ⟨c, am, E⟩ := z03 h
 refine W.ln (Lo.cQ Tryd.f5 (mc rfl (mc rfl mn)) ak (fun a3 ab => z5r K B i C A ab _ am)) ?_
 rintro bk bl ⟨F, g, l, a4, rfl⟩
 refine W.p2 (.tuple #[(.string c.1), (.int .i64 c.2.1), (.int .i64 c.2.2)]) (W.pv (.string c.1) (z39 ov rfl) (W.pv (.int .i64 c.2.1) (z39 ov rfl) (W.pv (.int .i64 c.2.2) (z39 ov rfl) (W.p1 (.string c.1) (W.p1 (.int .i64 c.2.1) (W.p1 (.int .i64 c.2.2) ?_))))))
 refine .nil (.seq (.seq (.region (W.p2 (.int .i64 c.2.2) (W.p3 (.bool (c.2.2 != 0)) (.nil ?_))))))
 refine .cond (b := (c.2.2 != 0)) rfl rfl (fun m => ?_) (fun m => ?_)
 .have an := z01 m E
  refine .seq (.region ?_)
  have ao := g.nilSl 9 rS
  have ap := ao.nilSl 52 z0x
  have aq := ap.nilSl 59 z0i
  have ar := aq.nilSl 67 z6b
  have au := ar.nilSl 71 z1w
  have av := au.nilSl 75 z1o
  obtain ⟨I, aw, ax⟩ := z9t (G := F)
  refine W.pv (.agg I.toArray) (aw (z4t rfl qn')) (W.p2 (.int .i64 c.2.2) (W.ln (Lo.storeW (j := 6) (r := z00) (s := z18) (y0 := ((Network.mk ([] : List zAd) ([] : List Switch) ([] : List Branch) ([] : List Gen) ([] : List Load_) ([] : List Store)), (.slice none 0 0), (.slice none 0 0), (.slice none 0 0), (.slice none 0 0), (.slice none 0 0), (.slice none 0 0))) (v := (.agg I.toArray)) rfl rfl rfl sz29 rfl rfl ax av) ?_))
  rintro bm bn ⟨J, a5⟩
  refine W.p1 (.int .i64 c.2.2) (.nil (.ret ?_))
  obtain ⟨M, ay, N⟩ := (J.atVar (j := 6) rfl)
  have az := (((((((J.drop 6).drop 6).front (j := 0) rfl).front (j := 1) rfl).front (j := 2) rfl).front (j := 3) rfl).front (j := 4) rfl).front (j := 5) rfl
  obtain rfl := zAa an
  exact zji kr (.tuple ⟨.nilFunc :: [(.slice none 0 0), (.slice none 0 0), (.slice none 0 0), (.slice none 0 0), (.slice none 0 0), (.slice none 0 0)]⟩) (v1 := (.agg M.toArray)) (v2 := (.int .i64 c.2.2)) (by rfl) (z8i (p := (.pointer (some ⟨aa, 0, none⟩))) (by rfl) ag29 sz29 (by exact rfl) ay (RT.len _ N)) rt az l ⟨M, rfl, N⟩
 have aA := z11 m E
 refine .skip (.seq (.seq (.region (W.p2 (.string c.1) (W.pv (.bool (!(sEq c.1 (⟨#[115, 119, 105, 116, 99, 104]⟩ : zAd)))) (zg0 ov ov) ?_)))))
 obtain ⟨aB, aC, P⟩ := zep aA
 refine .nil (.cond (b := aB) rfl (congrArg (Value.bool) aC) (fun o => ?_) (fun o => ?_))
 .have aD := z01 o P
  refine .seq (.region ?_)
  have aE := g.nilSl 9 rS
  have aF := aE.nilSl 52 z0x
  have aG := aF.nilSl 59 z0i
  have aH := aG.nilSl 67 z6b
  have aI := aH.nilSl 71 z1w
  have aJ := aI.nilSl 75 z1o
  obtain ⟨Q, aK, aL⟩ := z9t (G := F)
  refine W.pv (.agg Q.toArray) (aK (z4t rfl qn')) (W.ln (Lo.storeW (j := 6) (r := z00) (s := z18) (y0 := ((Network.mk ([] : List zAd) ([] : List Switch) ([] : List Branch) ([] : List Gen) ([] : List Load_) ([] : List Store)), (.slice none 0 0), (.slice none 0 0), (.slice none 0 0), (.slice none 0 0), (.slice none 0 0), (.slice none 0 0))) (v := (.agg Q.toArray)) rfl rfl rfl sz29 rfl rfl aL aJ) ?_)
  rintro bo bp ⟨S, a6⟩
  refine W.p1 (.int .i64 1) (.nil (.ret ?_))
  obtain ⟨T, aM, U⟩ := (S.atVar (j := 6) rfl)
  have aN := (((((((S.drop 6).drop 6).front (j := 0) rfl).front (j := 1) rfl).front (j := 2) rfl).front (j := 3) rfl).front (j := 4) rfl).front (j := 5) rfl
  obtain rfl := zAa aD
  exact zji kr (.tuple ⟨.nilFunc :: [(.slice none 0 0), (.slice none 0 0), (.slice none 0 0), (.slice none 0 0), (.slice none 0 0), (.slice none 0 0)]⟩) (v1 := (.agg T.toArray)) (v2 := (.int .i64 1)) (by rfl) (z8i (p := (.pointer (some ⟨aa, 0, none⟩))) (by rfl) ag29 sz29 (by exact rfl) aM (RT.len _ U)) rt aN l ⟨T, rfl, U⟩
 have aO := z11 o P
 refine .skip (.seq (.region ?_))
 obtain ⟨V, aP, X⟩ := (g.atVar (j := 1) rfl)
 refine W.loadA (cs := V) rfl rfl ag29 sz29 (z0f rfl aP) (RT.len _ X) ?_
 obtain ⟨Y, aQ, aR⟩ := z03 aO
 refine W.ln (Lo.qF Tryd.f22 (ps := []) (pw := fun w => [_, _, _, _, _, _]) (mc rfl mn) g (fun a3 ab => z6z K V i X ab _ aQ)) ?_
 rintro bq br ⟨a, bs, aS, aT, a7, ⟨aU, rfl, aV⟩⟩
 refine W.ln (Lo.alloc (r := z00) (x0 := (Network.mk ([] : List zAd) ([] : List Switch) ([] : List Branch) ([] : List Gen) ([] : List Load_) ([] : List Store))) ze29 (by kernel_rfl) z6n aS) ?_
 rintro a8 a9 ⟨ac, rfl, aW, aX⟩
 refine W.ln (Lo.storeW (j := 0) (r := z00) (s := z18) (y0 := (Y, (oV a 0), (oV a 1), (oV a 2), (oV a 3), (oV a 4), (oV a 5))) (v := (.agg aU.toArray)) rfl rfl rfl sz29 rfl rfl aV aW) ?_
 rintro ba bb ⟨e, aY⟩
 refine .nil (.seq (.region (W.pv (padd (.pointer (some ⟨ac, 0, none⟩)) 1) (z0a z86 ov (e.atVar (j := 0) rfl)) (W.l1 (oV a 1) ag23 (z0f rfl (At.raw (At.proj (e.atVar (j := 0) rfl) z30))) (W.p2 (.int .i64 c.2.1) (W.p2 (.bool k) ?_))))))
 obtain ⟨bc, ad, ae⟩ := z03 aR
 have f := z1v ad
 refine W.pv (z5q (oV a 1) (c.2.1.toNat * 5)) (z6h el23 sz52 ov ov (e.slLen (j := 2) rfl) f.1 f.2.1) (W.pv (padd (z5q (oV a 1) (c.2.1.toNat * 5)) 4) (z0a zg6 ov (e.atSl (j := 2) rfl f.2.2)) (W.ln (Lo.storeSl (j := 2) (s := rB) (y0 := k) (v := (.bool k)) rfl f.2.2 (Put.at z9s _ _) rfl sz4 rfl rfl rfl e) ?_))
 rintro bd be ⟨q, aZ⟩
 refine .nil (.seq (.region ?_))
 obtain ⟨t, af, u⟩ := (q.atVar (j := 0) rfl)
 refine W.loadA (cs := t) rfl rfl ag29 sz29 (z0f rfl af) (RT.len _ u) (W.ln (Lo.storeW (j := 7) (r := z00) (s := z18) (y0 := (Y, (oV a 0), (oV a 1), (oV a 2), (oV a 3), (oV a 4), (oV a 5))) (v := (.agg t.toArray)) rfl rfl rfl sz29 rfl rfl u q) ?_)
 rintro bf bg ⟨x, a0⟩
 refine W.p1 (.int .i64 0) (.nil (.ret ?_))
 obtain ⟨y, ag, z⟩ := (x.atVar (j := 7) rfl)
 have ah := ((x.drop 0).drop 6).drop 6
 obtain rfl := zAa ae
 exact zji kr (.tuple ⟨.nilFunc :: [(oV a 0), (oV a 1), (oV a 2), (oV a 3), (oV a 4), (oV a 5)]⟩) (v1 := (.agg y.toArray)) (v2 := (.int .i64 0)) (by rfl) (z8i (p := (.pointer (some ⟨aa, 0, none⟩))) (by rfl) ag29 sz29 (by exact rfl) ag (RT.len _ z)) rt ah (zAe l aT) ⟨y, rfl, z⟩
def z36 (K : Nat) : Nat -> Int -> zAd -> Option (zAd)
  | 0, _, _ => none
  | k + 1, a, b => (Option.bind ((if (decide (a > 0)) = true then some true else some (sEq b (⟨#[]⟩ : zAd)))) (tu1 fun d => (if d = true then ((ssl (⟨#[48, 49, 50, 51, 52, 53, 54, 55, 56, 57]⟩ : zAd) (Int.tmod a 10) (z0u .i64 ((Int.tmod a 10) + 1))).bind fun c => (if (c).size + (b).size <= 4611686018427387904 then z36 K k (z0u .i64 (Int.tdiv a 10)) (c ++ b) else none)) else some b)))
def z3q (K : Nat) : Nat -> Int -> Option zAd
  | 0, _ => none
  | D + 1, a => (if (decide (a >= 0)) = true then (Option.bind (z36 K K a (⟨#[]⟩ : zAd)) (tu1 fun c => some c)) else (if (a == (-9223372036854775808)) = true then some (⟨#[45, 57, 50, 50, 51, 51, 55, 50, 48, 51, 54, 56, 53, 52, 55, 55, 53, 56, 48, 56]⟩ : zAd) else (((z3q K D) (z0u .i64 (-a))).bind fun b => (if ((⟨#[45]⟩ : zAd)).size + (b).size <= 4611686018427387904 then some ((⟨#[45]⟩ : zAd) ++ b) else none))))
theorem zcg (K D : Nat) : ∀ {G : GM} {H : AH} {L : List Pc} (c : Int) (O : Ow G H (L)) (r : zAd) (h : z3q K D c = some r),
    CR Tryd.prog 66 [(.int .i64 c)] G H (L) (fun v f _ => v = .string r) := by
 induction D with
 | zero => intro G H L c O r h; exact z0e h
 | succ D ih =>
 intro G H L c O r h
 rw [z3q] at h
 refine CR.og (n := 29) (fn := Tryd.f66) (by kernel_rfl) rfl rfl fun R kr => (.seq (.region (W.p1 (.string (⟨#[]⟩ : zAd)) (.nil (.seq (.seq ?_))))))
 refine .region (W.p2 (.int .i64 c) (W.p3 (.bool (decide (c >= 0))) (.nil (.cond (b := decide (c >= 0)) rfl rfl (fun I => ?_) (fun I => ?_)))))
 rotate_left
 .have x := z11 I h
  refine .skip (.seq (.seq (.region (W.p2 (.int .i64 c) (W.p3 (.bool (c == (-9223372036854775808))) (.nil ?_))))))
  refine .cond (b := (c == (-9223372036854775808))) rfl rfl (fun m => ?_) (fun m => ?_)
  .have N := z01 m x
   refine .seq (.region (W.p1 (.string (⟨#[45, 57, 50, 50, 51, 51, 55, 50, 48, 51, 54, 56, 53, 52, 55, 55, 53, 56, 48, 56]⟩ : zAd)) (.nil (.ret ?_))))
   obtain rfl := zAa N
   exact z41 kr (v1 := (.string (⟨#[45, 57, 50, 50, 51, 51, 55, 50, 48, 51, 54, 56, 53, 52, 55, 55, 53, 56, 48, 56]⟩ : zAd))) (by rfl) rt O (zAf _) rfl
  have P := z11 m x
  refine .skip (.seq (.region (W.p2 (.int .i64 c) (W.pv (.int .i64 (z0u .i64 (-c))) (zmg ov) ?_))))
  obtain ⟨o, Q, S⟩ := z03 P
  refine W.ln (Lo.cQ Tryd.f66 (mc rfl mn) O (fun aL ar => ih (z0u .i64 (-c)) ar _ Q)) ?_
  rintro aC aD ⟨aE, T, U, au, rfl⟩
  obtain ⟨V, X⟩ := z38 S
  refine W.pv (.string ((⟨#[45]⟩ : zAd) ++ o)) (z7l V ov ov) (W.p1 (.string ((⟨#[45]⟩ : zAd) ++ o)) (.nil (.ret ?_)))
  obtain rfl := zAa X
  exact z41 kr (v1 := (.string ((⟨#[45]⟩ : zAd) ++ o))) (by rfl) rt T U rfl
 have av := z01 I h
 refine .seq (.region (W.p1 (.string (⟨#[]⟩ : zAd)) (.nil (.seq ?_))))
 obtain ⟨Y, aw, ax⟩ := z03 av
 refine AW.midT (fun e p => ∃ (i : zAd) (f : GM), i = Y /\ Ow f p (L) /\ GM.le G f /\ e 3 = .string i) ?_ ?_
 rotate_left
 .rintro ay aF az ⟨y, aG, rfl, Z, aa, ab⟩
  have ac := z0k ax
  refine .seq (.region (W.q2 _ ab (W.p1 (.string y) (.nil (.ret ?_)))))
  obtain rfl := zAa ac
  exact z41 kr (v1 := (.string y)) (by rfl) rt Z aa rfl
 refine .block (AW.loop (α := Nat) (fun J e p => ∃ (i : Int) (ad : zAd) (f : GM), z36 K J i ad = some Y /\ Ow f p (L) /\ GM.le G f /\ e 0 = .int .i64 i /\ e 3 = .string ad) (fun J => J) K ⟨c, (⟨#[]⟩ : zAd), _, aw, O, (zAf _), rfl, rfl⟩ ?_)
 rintro M
 rintro aH aI aA ⟨g, j, ae, q, z, A, k, s⟩
 rcases M with _ | M
 .exact z0e q
 rw [z36] at q
 refine .seq (.seq ?_)
 obtain ⟨af, B, ag⟩ := z03 q
 refine AW.midT (fun e p => ∃ (i : Bool) (f : GM), i = af /\ Ow f p (L) /\ GM.le ae f /\ e 11 = .bool i) ?_ ?_
 .refine .region (W.q2 _ k (W.p3 (.bool (decide (g > 0))) (W.p2 (.bool (decide (g > 0))) (W.splitAt (t := 8) (b := decide (g > 0)) rfl (fun u a => ?_) (fun u a => ?_)))))
  .have ah := z01 u B
   refine W.q6 rfl a (W.q6 rfl a (W.q4 (.bool true) a rfl (.nil ?_)))
   obtain rfl := zAa ah
   exact ⟨true, _, rfl, z, (zAf _), rfl⟩
  have ai := z11 u B
  refine W.q2 (hg := gk rfl rfl a rfl) _ s (W.pure (v := (.bool (sEq j (⟨#[]⟩ : zAd)))) (gl rfl a) rfl (z69 ov ov) (W.q5 (.bool (sEq j (⟨#[]⟩ : zAd))) a rfl (.nil ?_)))
  obtain rfl := zAa ai
  exact ⟨sEq j (⟨#[]⟩ : zAd), _, rfl, z, (zAf _), rfl⟩
 rintro aB aJ d ⟨aj, aK, rfl, C, E, ak⟩
 have F := z0k ag
 refine .cond (b := aj) rfl ak (fun w => ?_) (fun w => ?_)
 rotate_left
 .have al := z11 w F
  refine .exit ?_
  obtain rfl := zAa al
  exact ⟨j, _, rfl, C, (zAe A E), (ft (d 3 rfl) s)⟩
 have am := z01 w F
 refine .skip (.block (.seq (.region (W.q2 _ (ft (d 0 rfl) k) (W.pv (.int .i64 (Int.tmod g 10)) (zm4 (by decide) ov ov) (W.q2 _ (ft (d 0 rfl) k) ?_))))))
 refine W.pv (.int .i64 (Int.tmod g 10)) (zm4 (by decide) ov ov) (W.p3 (.int .i64 (z0u .i64 ((Int.tmod g 10) + 1))) ?_)
 obtain ⟨l, an, ao⟩ := z03 am
 refine W.pv (.string l) (zko un9 ov ov ov an) (W.q2 _ (ft (d 3 rfl) s) ?_)
 obtain ⟨ap, aq⟩ := z38 ao
 refine W.pv (.string (l ++ j)) (z7l ap ov ov) (W.p1 (.string (l ++ j)) (.nil (.region (W.q2 _ (ft (d 0 rfl) k) (W.pv (.int .i64 (z0u .i64 (Int.tdiv g 10))) (zmd (by decide) ov ov) (W.p1 (.int .i64 (z0u .i64 (Int.tdiv g 10))) ?_))))))
 refine .nil ?_
 exact ⟨M, zAg _, ⟨z0u .i64 (Int.tdiv g 10), (l ++ j), _, aq, C, (zAe A E), rfl, rfl⟩⟩
def z9u (K : Nat) (a : Int) : Option zAd := ((z3q K K a).bind fun b => some b)
theorem zgf (a : Int) (O : Ow G H (L)) (r : zAd) (h : z9u K a = some r) :
    CR Tryd.prog 44 [(.int .i64 a)] G H (L) (fun v l _ => v = .string r) := by
 unfold z9u at h
 refine CR.og (n := 5) (fn := Tryd.f44) (by kernel_rfl) rfl rfl fun R kr => (.seq (.region (W.p1 (.string (⟨#[]⟩ : zAd)) (.nil (.seq (.region ?_))))))
 refine W.p2 (.int .i64 a) ?_
 obtain ⟨b, c, d⟩ := z03 h
 refine W.ln (Lo.cQ Tryd.f66 (mc rfl mn) O (fun m e => zcg K K a e _ c)) ?_
 rintro i j ⟨o, f, g, k, rfl⟩
 refine W.p1 (.string b) (.nil (.ret ?_))
 obtain rfl := zAa d
 exact z41 kr (v1 := (.string b)) (by rfl) rt f g rfl
def z1q (K : Nat) (b : List zAd) : Nat -> zAd -> Int -> Option (zAd)
  | 0, _, _ => none
  | k + 1, c, d => (if (decide (d < (b.length : Int))) = true then ((idx b d).bind fun a => (if (a).size + ((⟨#[32]⟩ : zAd)).size <= 4611686018427387904 then (if (c).size + ((a ++ (⟨#[32]⟩ : zAd))).size <= 4611686018427387904 then z1q K b k (c ++ (a ++ (⟨#[32]⟩ : zAd))) (z0u .i64 (d + 1)) else none) else none)) else some c)
def z1r (K : Nat) (d : List Int) : Nat -> zAd -> Int -> Option (zAd)
  | 0, _, _ => none
  | k + 1, a, b => (if (decide (b < (d.length : Int))) = true then ((idx d b).bind fun e => ((z9u K e).bind fun c => (if (c).size + ((⟨#[32]⟩ : zAd)).size <= 4611686018427387904 then (if (a).size + ((c ++ (⟨#[32]⟩ : zAd))).size <= 4611686018427387904 then z1r K d k (a ++ (c ++ (⟨#[32]⟩ : zAd))) (z0u .i64 (b + 1)) else none) else none))) else some a)
def z3c (K : Nat) (e : List zAd) (f : List Int) (c : List zAd) : Option (List zAd) := (Option.bind (z1q K e K (⟨#[]⟩ : zAd) 0) (tu1 fun d => (Option.bind (z1r K f K d 0) (tu1 fun a => ((ssl a 0 (z0u .i64 ((a.size : Int) - 1))).bind fun b => (if c.length + [b].length <= 16777216 then some (c ++ [b]) else none))))))
theorem z55 (am : Value) (J : List zAd) (S : (rSl rS).rep G [am] J) (an : Value) (N : List Int) (T : (rSl (rI .i64)).rep G [an] N) (t : Nat) (c : Value) (P : List zAd) (O : Ow G H (eVar t 22 rV c :: eSl c 9 rS P :: L)) (r : List zAd) (h : z3c K J N P = some r) :
    CRF Tryd.prog 43 [am, an, .pointer (some ⟨t, 0, none⟩)] G H (fun wl => (eVar t 22 rV wl :: eSl wl 9 rS r :: L)) (fun wl v d => v = .tuple #[]) := by
 unfold z3c at h
 refine CRF.og (n := 41) (fn := Tryd.f43) (by kernel_rfl) rfl rfl fun R kr => (.seq (.region (W.p1 (.string (⟨#[]⟩ : zAd)) (.nil (.seq (.seq ?_))))))
 refine .region (W.p2 am (W.pv (.int .i64 (J.length : Int)) (z1j ov (z17 S) (z02 el22)) (W.p2 (.int .i64 0) (.nil ?_))))
 obtain ⟨aF, be, bf⟩ := z03 h
 refine AW.midT (fun a u => ∃ (e : zAd) (d : GM), e = aF /\ Ow d u (eVar t 22 rV c :: eSl c 9 rS P :: L) /\ GM.le G d /\ a 5 = .string e) ?_ ?_
 .refine .block (AW.loop (α := Nat) (fun w a u => ∃ (e : zAd) (U : Int) (d : GM), z1q K J w e U = some aF /\ Ow d u (eVar t 22 rV c :: eSl c 9 rS P :: L) /\ GM.le G d /\ a 5 = .string e /\ a 12 = .int .i64 U) (fun w => w) K ⟨(⟨#[]⟩ : zAd), 0, _, be, O, (zAf _), rfl, rfl⟩ ?_)
  rintro az
  rintro bg bo V ⟨ao, Q, bp, z, X, l, ap, Y⟩
  rcases az with _ | az
  .exact z0e z
  rw [z1q] at z
  refine .seq (.region (W.q3 (.bool (decide (Q < (J.length : Int)))) Y (ft (V 11 rfl) rfl) (.nil (.seq (.cond (b := decide (Q < (J.length : Int))) rfl rfl (fun Z => ?_) (fun Z => ?_))))))
  rotate_left
  .have aG := z11 Z z
   refine .exit ?_
   obtain rfl := zAa aG
   exact ⟨ao, _, rfl, X, l, ap⟩
  have aH := z01 Z z
  refine .skip (.seq (.block (.seq (.region ?_))))
  obtain ⟨f, aI, aJ⟩ := z03 aH
  have aa := z1v aI
  refine W.pv (z5q am (Q.toNat * 1)) (z6h el22 sz9 (ou (ft (V 10 rfl) rfl)) (ou Y) (z17 (RT.mono _ l S)) aa.1 aa.2.1) (W.l1 (.string f) ag9 (z0f rfl (At.str (At.le (At.le (z47 S aa.2.2) l l) (zAf _) X.fro))) (W.p1 (.string f) (.nil (.region (W.q2 _ ap (W.p2 (.string f) ?_))))))
  obtain ⟨aK, aL⟩ := z38 aJ
  refine W.pv (.string (f ++ (⟨#[32]⟩ : zAd))) (z7l aK ov ov) ?_
  obtain ⟨aM, aN⟩ := z38 aL
  refine W.pv (.string (ao ++ (f ++ (⟨#[32]⟩ : zAd)))) (z7l aM ov ov) (W.p1 (.string (ao ++ (f ++ (⟨#[32]⟩ : zAd)))) (.nil (.region (W.r3 (.int .i64 (z0u .i64 (Q + 1))) Y (W.p2 (.int .i64 (z0u .i64 (Q + 1))) (.nil ?_))))))
  exact ⟨az, zAg _, ⟨(ao ++ (f ++ (⟨#[32]⟩ : zAd))), z0u .i64 (Q + 1), _, aN, X, l, rfl, rfl⟩⟩
 rintro bh bq x ⟨aO, aq, rfl, aP, p, aQ⟩
 have aR := z0k bf
 refine .seq (.seq (.region (W.q2 an (ft (x 1 rfl) rfl) (W.pv (.int .i64 (N.length : Int)) (z1j ov (z17 (RT.mono _ p T)) (z02 el82)) (W.p2 (.int .i64 0) (.nil ?_))))))
 obtain ⟨ar, aS, aT⟩ := z03 aR
 refine AW.midT (fun a u => ∃ (e : zAd) (d : GM), e = ar /\ Ow d u (eVar t 22 rV c :: eSl c 9 rS P :: L) /\ GM.le aq d /\ a 5 = .string e) ?_ ?_
 rotate_left
 .rintro bi br ab ⟨au, bs, rfl, aU, aV, av⟩
  have aW := z0k aT
  refine .draw2 (M := [0, 0, 0, 4, 12, 30, 62, 127, 255]) mixed (by kernel_rfl) (by kernel_rfl) fun bt bu aX aY => ?_
  have aw := aU.ext aX
  refine D2.l1 c ag22 (z0f (ft (ab 2 rfl) (ft (x 2 rfl) rfl)) (At.raw (aw.atVar (j := 0) rfl))) z0d (D2.q2 _ av (D2.q2 _ av (D2.pv (.int .i64 (au.size : Int)) (z9r ov un9) (D2.p3 (.int .i64 (z0u .i64 ((au.size : Int) - 1))) ?_))))
  obtain ⟨ac, aZ, a0⟩ := z03 aW
  refine D2.pv (.string ac) (zkp un9 ov ov aZ) (D2.alloc (m := 9) rfl rfl (Al.buildSlice (r := rS) (vs := [(.string ac)]) (xs := [ac]) el22 ze9 sz9 (by kernel_rfl) rfl (qc rfl qn) rfl (.cons rfl .nil)) (Free.up (by decide) aY) (by decide) aw ?_)
  rintro bv bw ⟨ax, bj, bk⟩
  obtain ⟨bd, aA, aB⟩ := z6i (j := 0) rfl ax
  obtain ⟨aC, aD⟩ := z38 a0
  refine D2.lo rfl rfl (Lo.append (j := 2) (v := c) rfl rfl el22 ni22 ze9 sz9 by9 (by decide) (by decide) rfl aA aB aC ax) ?_ z0d ?_ ?_
  .rintro g ad ⟨k, A⟩; exact (faI z0d)
  .rintro g ad ⟨k, A⟩; exact (faI z0d)
  rintro g ad ⟨k, A⟩
  refine D2.lo rfl rfl (Lo.storeVar (j := 1) (s := rV) (y0 := g) (v := g) (o := 0) rfl ((Put.at (Put.self _) _ _)) rfl sz22 (ft (ab 2 rfl) (ft (x 2 rfl) rfl)) (by omega) rfl (zcn (k.slLen (j := 2) rfl)) k) ?_ (faK z0d) ?_ ?_
  .rintro ae af ⟨y, B⟩; exact (faI z0d)
  .rintro ae af ⟨y, B⟩; exact (faI z0d)
  rintro ae af ⟨y, B⟩
  refine .nil ?_
  have aE := y.drop 0
  obtain rfl := zAa aD
  exact zlo kr g  (by rfl)  aE (zAe p aV) rfl
 refine .block (AW.loop (α := Nat) (fun w a u => ∃ (e : zAd) (U : Int) (d : GM), z1r K N w e U = some ar /\ Ow d u (eVar t 22 rV c :: eSl c 9 rS P :: L) /\ GM.le aq d /\ a 5 = .string e /\ a 23 = .int .i64 U) (fun w => w) K ⟨aO, 0, _, aS, aP, (zAf _), aQ, rfl⟩ ?_)
 rintro ag
 rintro bl bx ah ⟨C, i, bz, E, ai, q, ay, aj⟩
 rcases ag with _ | ag
 .exact z0e E
 rw [z1r] at E
 refine .seq (.region (W.q3 (.bool (decide (i < (N.length : Int)))) aj (ft (ah 22 rfl) rfl) (.nil (.seq (.cond (b := decide (i < (N.length : Int))) rfl rfl (fun ak => ?_) (fun ak => ?_))))))
 rotate_left
 .have a1 := z11 ak E
  refine .exit ?_
  obtain rfl := zAa a1
  exact ⟨C, _, rfl, ai, q, ay⟩
 have a2 := z01 ak E
 refine .skip (.seq (.block (.seq (.region ?_))))
 obtain ⟨F, a3, a4⟩ := z03 a2
 have al := z1v a3
 refine W.pv (z5q an (i.toNat * 1)) (z6h el82 sz3 (ou (ft (ah 21 rfl) rfl)) (ou aj) (z17 (RT.mono _ (zAe p q) T)) al.1 al.2.1) (W.l1 (.int .i64 F) ag3 (z0f rfl (At.int (At.le (At.le (z47 T al.2.2) (zAe p q) (zAe p q)) (zAf _) ai.fro))) (W.p1 (.int .i64 F) (.nil (.region (W.q2 _ ay (W.p2 (.int .i64 F) ?_))))))
 obtain ⟨I, a5, a6⟩ := z03 a4
 refine W.ln (Lo.cQ Tryd.f44 (mc rfl mn) ai (fun bD bm => zgf K F bm _ a5)) ?_
 rintro bA bB ⟨bC, a7, a8, bn, rfl⟩
 obtain ⟨a9, ba⟩ := z38 a6
 refine W.pv (.string (I ++ (⟨#[32]⟩ : zAd))) (z7l a9 ov ov) ?_
 obtain ⟨bb, bc⟩ := z38 ba
 refine W.pv (.string (C ++ (I ++ (⟨#[32]⟩ : zAd)))) (z7l bb ov ov) (W.p1 (.string (C ++ (I ++ (⟨#[32]⟩ : zAd)))) (.nil (.region (W.r3 (.int .i64 (z0u .i64 (i + 1))) aj (W.p2 (.int .i64 (z0u .i64 (i + 1))) (.nil ?_))))))
 exact ⟨ag, zAg _, ⟨(C ++ (I ++ (⟨#[32]⟩ : zAd))), z0u .i64 (i + 1), _, bc, a7, (zAe q a8), rfl, rfl⟩⟩
end Go.Am.Tryd
/- Typed functions with the same answers as the program's, and the walks that show it. -/
namespace Go.Am.Tryd
open Go Go.Am Go.Proofs
variable (K : Nat) {G : GM} {H : AH} {L : List Pc}
def z27 (K : Nat) (d : Network) : Nat -> List zAd -> Int -> Option (List zAd)
  | 0, _, _ => none
  | k + 1, a, b => (if (decide (b < (d.Nodes.length : Int))) = true then ((idx d.Nodes b).bind fun c => (if ((⟨#[110, 111, 100, 101, 32]⟩ : zAd)).size + (c).size <= 4611686018427387904 then (if a.length + [((⟨#[110, 111, 100, 101, 32]⟩ : zAd) ++ c)].length <= 16777216 then z27 K d k (a ++ [((⟨#[110, 111, 100, 101, 32]⟩ : zAd) ++ c)]) (z0u .i64 (b + 1)) else none) else none)) else some a)
def z28 (K : Nat) (g : Network) : Nat -> List zAd -> Int -> Option (List zAd)
  | 0, _, _ => none
  | k + 1, d, e => (if (decide (e < (g.Switches.length : Int))) = true then ((idx g.Switches e).bind fun a => (if (a.Name).size + ((⟨#[32]⟩ : zAd)).size <= 4611686018427387904 then (if ((a.Name ++ (⟨#[32]⟩ : zAd))).size + (a.A).size <= 4611686018427387904 then (if (((a.Name ++ (⟨#[32]⟩ : zAd)) ++ a.A)).size + ((⟨#[32]⟩ : zAd)).size <= 4611686018427387904 then (lt (((a.Name ++ (⟨#[32]⟩ : zAd)) ++ a.A) ++ (⟨#[32]⟩ : zAd)) fun b => (if (b).size + (a.B).size <= 4611686018427387904 then (Option.bind ((if a.Breaker = true then (if ((⟨#[98, 114, 101, 97, 107, 101, 114, 32]⟩ : zAd)).size + ((b ++ a.B)).size <= 4611686018427387904 then (lt ((⟨#[98, 114, 101, 97, 107, 101, 114, 32]⟩ : zAd) ++ (b ++ a.B)) fun h => some h) else none) else (if ((⟨#[115, 119, 105, 116, 99, 104, 32]⟩ : zAd)).size + ((b ++ a.B)).size <= 4611686018427387904 then (lt ((⟨#[115, 119, 105, 116, 99, 104, 32]⟩ : zAd) ++ (b ++ a.B)) fun i => some i) else none))) (tu1 fun c => (Option.bind ((if a.Open = true then (if (c).size + ((⟨#[32, 111, 112, 101, 110]⟩ : zAd)).size <= 4611686018427387904 then some (c ++ (⟨#[32, 111, 112, 101, 110]⟩ : zAd)) else none) else (if (c).size + ((⟨#[32, 99, 108, 111, 115, 101, 100]⟩ : zAd)).size <= 4611686018427387904 then some (c ++ (⟨#[32, 99, 108, 111, 115, 101, 100]⟩ : zAd)) else none))) (tu1 fun f => (if d.length + [f].length <= 16777216 then z28 K g k (d ++ [f]) (z0u .i64 (e + 1)) else none))))) else none)) else none) else none) else none)) else some d)
def z29 (K : Nat) (d : Network) : Nat -> List zAd -> Int -> Option (List zAd)
  | 0, _, _ => none
  | k + 1, c, b => (if (decide (b < (d.Branches.length : Int))) = true then ((idx d.Branches b).bind fun a => ((z3c K [(⟨#[98, 114, 97, 110, 99, 104]⟩ : zAd), a.Name, a.From, a.To] [a.X, a.Tap, a.Shift, a.Limit, a.Short, a.Hold] c).bind fun e => z29 K d k e (z0u .i64 (b + 1)))) else some c)
def z2a (K : Nat) (d : Network) : Nat -> List zAd -> Int -> Option (List zAd)
  | 0, _, _ => none
  | k + 1, c, b => (if (decide (b < (d.Gens.length : Int))) = true then ((idx d.Gens b).bind fun a => ((z3c K [(⟨#[103, 101, 110]⟩ : zAd), a.Name, a.Node] [a.Least, a.Most, a.Ramp] c).bind fun e => z2a K d k e (z0u .i64 (b + 1)))) else some c)
def z2b (K : Nat) (d : Network) : Nat -> List zAd -> Int -> Option (List zAd)
  | 0, _, _ => none
  | k + 1, c, a => (if (decide (a < (d.Loads.length : Int))) = true then ((idx d.Loads a).bind fun b => ((z3c K [(⟨#[108, 111, 97, 100]⟩ : zAd), b.Name, b.Node] [b.Demand] c).bind fun e => z2b K d k e (z0u .i64 (a + 1)))) else some c)
def z1z (K : Nat) (d : Network) : Nat -> List zAd -> Int -> Option (List zAd)
  | 0, _, _ => none
  | k + 1, c, b => (if (decide (b < (d.Stores.length : Int))) = true then ((idx d.Stores b).bind fun a => ((z3c K [(⟨#[115, 116, 111, 114, 101]⟩ : zAd), a.Name, a.Node] [a.Charge, a.Discharge, a.Capacity] c).bind fun e => z1z K d k e (z0u .i64 (b + 1)))) else some c)
def z4j (K : Nat) (a : Network) : Option (List zAd) := (Option.bind (z27 K a K [] 0) (tu1 fun g => (Option.bind (z28 K a K g 0) (tu1 fun b => (Option.bind (z29 K a K b 0) (tu1 fun c => (Option.bind (z2a K a K c 0) (tu1 fun d => (Option.bind (z2b K a K d 0) (tu1 fun e => (Option.bind (z1z K a K e 0) (tu1 fun f => some f))))))))))))
theorem z5v (ck : List Value) (f : Network) (e4 : z00.rep G ck f) (O : Ow G H (L)) (r : List zAd) (h : z4j K f = some r) :
    CRF Tryd.prog 10 [.agg ck.toArray] G H (fun cl => (eSl cl 9 rS r :: L)) (fun cl v e => cl = v) := by
 unfold z4j at h
 refine CRF.og (n := 159) (fn := Tryd.f10) (by kernel_rfl) rfl rfl fun R kr => (.seq (.region (W.ln (Lo.box (r := z00) (x0 := f) (v := (.agg ck.toArray)) rfl rfl e4 O) ?_)))
 rintro hJ hK ⟨u, rfl, gb, hu⟩
 refine W.p1 (.slice none 0 0) (.nil (.seq (.region ?_)))
 have gc := gb.nilSl 9 rS
 refine W.ln (Lo.alloc (r := rV) (x0 := (.slice none 0 0)) ze22 (by kernel_rfl) zV gc) ?_
 rintro hv hw ⟨q, rfl, cm, hx⟩
 refine .nil (.seq (.seq (.region (W.pv (padd (.pointer (some ⟨u, 0, none⟩)) 0) (z0a zaj ov (cm.atVar (j := 2) rfl)) ?_))))
 obtain ⟨w12, e5, bi⟩ := At.sl (At.proj (cm.atVar (j := 2) rfl) z1y)
 refine W.l1 w12 ag22 (z0f rfl e5) (W.pv (.int .i64 (f.Nodes.length : Int)) (z1j ov (z17 bi) (z02 el22)) (W.p2 (.int .i64 0) (.nil ?_)))
 obtain ⟨cb, e6, e7⟩ := z03 h
 refine AW.midT (fun i l => ∃ (g : List zAd) (w_l3 : Value) (e : GM), g = cb /\ Ow e l (eVar q 22 rV w_l3 :: eSl w_l3 9 rS g :: eVar u 29 z00 f :: L) /\ GM.le G e) ?_ ?_
 .refine .block (AW.loop (α := Nat) (fun t i l => ∃ (g : List zAd) (C : Int) (w_l3 : Value) (e : GM), z27 K f t g C = some cb /\ Ow e l (eVar q 22 rV w_l3 :: eSl w_l3 9 rS g :: eVar u 29 z00 f :: L) /\ GM.le G e /\ i 21 = .int .i64 C) (fun t => t) K ⟨[], 0, (.slice none 0 0), _, e6, cm, (zAf _), rfl⟩ ?_)
  rintro bj
  rintro gd hy an ⟨cc, al, bk, hz, be, bf, aD, bl⟩
  rcases bj with _ | bj
  .exact z0e be
  rw [z27] at be
  refine .seq (.region (W.q3 (.bool (decide (al < (f.Nodes.length : Int)))) bl (ft (an 20 rfl) rfl) (.nil (.seq (.cond (b := decide (al < (f.Nodes.length : Int))) rfl rfl (fun bm => ?_) (fun bm => ?_))))))
  rotate_left
  .have e8 := z11 bm be
   refine .exit ?_
   obtain rfl := zAa e8
   exact ⟨cc, bk, _, rfl, bf, aD⟩
  have e9 := z01 bm be
  refine .skip (.seq (.block (.seq (.region ?_))))
  obtain ⟨Z, fa, fb⟩ := z03 e9
  have bn := z1v fa
  refine W.pv (z5q w12 (al.toNat * 1)) (z6h el22 sz9 (ou (ft (an 19 rfl) rfl)) (ou bl) (z17 (RT.mono _ aD bi)) bn.1 bn.2.1) (W.l1 (.string Z) ag9 (z0f rfl (At.str (At.le (At.le (z47 bi bn.2.2) aD aD) (zAf _) bf.fro))) (W.p1 (.string Z) (.nil (.region (W.l1 bk ag22 (z0f (ft (an 3 rfl) rfl) (At.raw (bf.atVar (j := 0) rfl))) (W.p2 (.string Z) ?_))))))
  obtain ⟨fc, fd⟩ := z38 fb
  refine W.pv (.string ((⟨#[110, 111, 100, 101, 32]⟩ : zAd) ++ Z)) (z7l fc ov ov) (W.ln (Lo.buildSlice (r := rS) (vs := [(.string ((⟨#[110, 111, 100, 101, 32]⟩ : zAd) ++ Z))]) (xs := [((⟨#[110, 111, 100, 101, 32]⟩ : zAd) ++ Z)]) el22 ze9 sz9 (by kernel_rfl) rfl (qc rfl qn) rfl (.cons rfl .nil) bf) ?_)
  rintro hA hB ⟨cd, ge⟩
  obtain ⟨gf, fe, ff⟩ := z6i (j := 0) rfl cd
  obtain ⟨fg, fh⟩ := z38 fd
  refine W.ln (Lo.append (j := 2) (v := bk) rfl rfl el22 ni22 ze9 sz9 by9 (by decide) (by decide) rfl fe ff fg cd) ?_
  rintro bo hC ⟨ce, gg⟩
  refine W.ln (Lo.storeVar (j := 1) (s := rV) (y0 := bo) (v := bo) (o := 0) rfl ((Put.at (Put.self _) _ _)) rfl sz22 (ft (an 3 rfl) rfl) (by omega) rfl (zcn (ce.slLen (j := 2) rfl)) ce) ?_
  rintro hD hE ⟨fi, gh⟩
  refine .nil (.region (W.r3 (.int .i64 (z0u .i64 (al + 1))) bl (W.p2 (.int .i64 (z0u .i64 (al + 1))) (.nil ?_))))
  have fj := fi.drop 0
  exact ⟨bj, zAg _, ⟨(cc ++ [((⟨#[110, 111, 100, 101, 32]⟩ : zAd) ++ Z)]), z0u .i64 (al + 1), bo, _, fh, fj, aD, rfl⟩⟩
 rintro gi hF x ⟨fk, fl, cf, rfl, bp, fm⟩
 have fo := z0k e7
 refine .seq (.seq (.region (W.pv (padd (.pointer (some ⟨u, 0, none⟩)) 1) (z0a z86 (ou (ft (x 1 rfl) rfl)) (bp.atVar (j := 2) rfl)) ?_)))
 obtain ⟨cg, fp, bq⟩ := At.sl (At.proj (bp.atVar (j := 2) rfl) z1h)
 refine W.l1 cg ag23 (z0f rfl fp) (W.pv (.int .i64 (f.Switches.length : Int)) (z1j ov (z17 bq) (z02 el23)) (W.p2 (.int .i64 0) (.nil ?_)))
 obtain ⟨ch, fq, fr⟩ := z03 fo
 refine AW.midT (fun i l => ∃ (g : List zAd) (w_l3 : Value) (e : GM), g = ch /\ Ow e l (eVar q 22 rV w_l3 :: eSl w_l3 9 rS g :: eVar u 29 z00 f :: L) /\ GM.le cf e) ?_ ?_
 .refine .block (AW.loop (α := Nat) (fun t i l => ∃ (g : List zAd) (C : Int) (w_l3 : Value) (e : GM), z28 K f t g C = some ch /\ Ow e l (eVar q 22 rV w_l3 :: eSl w_l3 9 rS g :: eVar u 29 z00 f :: L) /\ GM.le cf e /\ i 34 = .int .i64 C) (fun t => t) K ⟨fk, 0, fl, _, fq, bp, (zAf _), rfl⟩ ?_)
  rintro br
  rintro gj hG ao ⟨bg, am, aa, fs, bh, bs, aE, bt⟩
  rcases br with _ | br
  .exact z0e bh
  rw [z28] at bh
  refine .seq (.region (W.q3 (.bool (decide (am < (f.Switches.length : Int)))) bt (ft (ao 33 rfl) rfl) (.nil (.seq (.cond (b := decide (am < (f.Switches.length : Int))) rfl rfl (fun bu => ?_) (fun bu => ?_))))))
  rotate_left
  .have cn := z11 bu bh
   refine .exit ?_
   obtain rfl := zAa cn
   exact ⟨bg, aa, _, rfl, bs, aE⟩
  have fu := z01 bu bh
  refine .skip (.seq (.block (.seq (.region ?_))))
  obtain ⟨k, fv, fw⟩ := z03 fu
  have bv := z1v fv
  refine W.pv (z5q cg (am.toNat * 5)) (z6h el23 sz52 (ou (ft (ao 32 rfl) rfl)) (ou bt) (z17 (RT.mono _ aE bq)) bv.1 bv.2.1) ?_
  obtain ⟨ci, fx, cj⟩ := (At.le (At.le (z47 bq bv.2.2) aE aE) (zAf _) bs.fro)
  refine W.loadA (cs := ci) rfl rfl ag52 sz52 (z0f rfl fx) (RT.len _ cj) (W.ln (Lo.alloc (r := z0x) (x0 := (Switch.mk ByteArray.empty ByteArray.empty ByteArray.empty false false)) ze52 (by kernel_rfl) zd5 bs) ?_)
  rintro hH hI ⟨ab, rfl, fy, gm⟩
  refine W.ln (Lo.storeVar (j := 0) (s := z0x) (y0 := k) (v := (.agg ci.toArray)) (o := 0) rfl ((Put.at (Put.self _) _ _)) rfl sz52 rfl (by omega) rfl cj fy) ?_
  rintro gn go ⟨F, fA⟩
  refine .nil (.seq (.region (W.pv (padd (.pointer (some ⟨ab, 0, none⟩)) 0) (z0a zhi ov (F.atVar (j := 0) rfl)) (W.l1 (.string k.Name) ag9 (z0f rfl (At.str (At.proj (F.atVar (j := 0) rfl) z6k))) ?_))))
  obtain ⟨co, cp⟩ := z38 fw
  refine W.pv (.string (k.Name ++ (⟨#[32]⟩ : zAd))) (z7l co ov ov) (W.pv (padd (.pointer (some ⟨ab, 0, none⟩)) 1) (z0a zhj ov (F.atVar (j := 0) rfl)) (W.l1 (.string k.A) ag9 (z0f rfl (At.str (At.proj (F.atVar (j := 0) rfl) z99))) ?_))
  obtain ⟨cq, cr⟩ := z38 cp
  refine W.pv (.string ((k.Name ++ (⟨#[32]⟩ : zAd)) ++ k.A)) (z7l cq ov ov) ?_
  obtain ⟨ct, cu⟩ := z38 cr
  refine W.pv (.string (((k.Name ++ (⟨#[32]⟩ : zAd)) ++ k.A) ++ (⟨#[32]⟩ : zAd))) (z7l ct ov ov) ?_
  obtain ⟨P, cv, cw⟩ := zep cu
  refine W.pv (padd (.pointer (some ⟨ab, 0, none⟩)) 2) (z0a zhk ov (F.atVar (j := 0) rfl)) (W.l1 (.string k.B) ag9 (z0f rfl (At.str (At.proj (F.atVar (j := 0) rfl) z9a))) ?_)
  obtain ⟨cx, cy⟩ := z38 cw
  refine W.pv (.string (P ++ k.B)) (z7l cx (ou (congrArg (Value.string) cv)) ov) (W.p1 (.string (P ++ k.B)) (.nil (.seq (.seq (.region (W.pv (padd (.pointer (some ⟨ab, 0, none⟩)) 3) (z0a zlk ov (F.atVar (j := 0) rfl)) ?_))))))
  refine W.l1 (.bool k.Breaker) ag4 (z0f rfl (At.bool (At.proj (F.atVar (j := 0) rfl) zak))) (.nil ?_)
  obtain ⟨cz, bw, cA⟩ := z03 cy
  refine AW.midT (fun i l => ∃ (g : zAd) (e : GM), g = cz /\ Ow e l (eVar ab 52 z0x k :: eVar q 22 rV aa :: eSl aa 9 rS bg :: eVar u 29 z00 f :: L) /\ GM.le fs e /\ i 8 = .string g) ?_ ?_
  .refine .cond (b := k.Breaker) rfl rfl (fun aF => ?_) (fun aF => ?_)
   rotate_left
   .have cB := z11 aF bw
    refine .region (W.p2 (.string (P ++ k.B)) ?_)
    obtain ⟨cC, cD⟩ := z38 cB
    refine W.pv (.string ((⟨#[115, 119, 105, 116, 99, 104, 32]⟩ : zAd) ++ (P ++ k.B))) (z7l cC ov ov) ?_
    obtain ⟨cE, cF, cG⟩ := zep cD
    refine W.q1 _ (congrArg (Value.string) cF) (.nil ?_)
    obtain rfl := zAa cG
    exact ⟨cE, _, rfl, F, (zAf _), rfl⟩
   have cH := z01 aF bw
   refine .region (W.p2 (.string (P ++ k.B)) ?_)
   obtain ⟨cI, cJ⟩ := z38 cH
   refine W.pv (.string ((⟨#[98, 114, 101, 97, 107, 101, 114, 32]⟩ : zAd) ++ (P ++ k.B))) (z7l cI ov ov) ?_
   obtain ⟨cK, cL, cM⟩ := zep cJ
   refine W.q1 _ (congrArg (Value.string) cL) (.nil ?_)
   obtain rfl := zAa cM
   exact ⟨cK, _, rfl, F, (zAf _), rfl⟩
  rintro fB gp Y ⟨Q, cN, rfl, ap, cO, bx⟩
  have cP := z0k cA
  refine .seq (.seq (.region (W.pv (padd (.pointer (some ⟨ab, 0, none⟩)) 4) (z0a zg6 (ou (ft (Y 7 rfl) rfl)) (ap.atVar (j := 0) rfl)) (W.l1 (.bool k.Open) ag4 (z0f rfl (At.bool (At.proj (ap.atVar (j := 0) rfl) z7m))) (.nil ?_)))))
  obtain ⟨cQ, bz, cR⟩ := z03 cP
  refine AW.midT (fun i l => ∃ (g : zAd) (e : GM), g = cQ /\ Ow e l (eVar ab 52 z0x k :: eVar q 22 rV aa :: eSl aa 9 rS bg :: eVar u 29 z00 f :: L) /\ GM.le cN e /\ i 8 = .string g) ?_ ?_
  .refine .cond (b := k.Open) rfl rfl (fun aG => ?_) (fun aG => ?_)
   .have cS := z01 aG bz
    refine .region (W.q2 _ bx ?_)
    obtain ⟨cT, cU⟩ := z38 cS
    refine W.pv (.string (Q ++ (⟨#[32, 111, 112, 101, 110]⟩ : zAd))) (z7l cT ov ov) (W.p1 (.string (Q ++ (⟨#[32, 111, 112, 101, 110]⟩ : zAd))) (.nil ?_))
    obtain rfl := zAa cU
    exact ⟨(Q ++ (⟨#[32, 111, 112, 101, 110]⟩ : zAd)), _, rfl, ap, (zAf _), rfl⟩
   have cV := z11 aG bz
   refine .region (W.q2 _ bx ?_)
   obtain ⟨cW, cX⟩ := z38 cV
   refine W.pv (.string (Q ++ (⟨#[32, 99, 108, 111, 115, 101, 100]⟩ : zAd))) (z7l cW ov ov) (W.p1 (.string (Q ++ (⟨#[32, 99, 108, 111, 115, 101, 100]⟩ : zAd))) (.nil ?_))
   obtain rfl := zAa cX
   exact ⟨(Q ++ (⟨#[32, 99, 108, 111, 115, 101, 100]⟩ : zAd)), _, rfl, ap, (zAf _), rfl⟩
  rintro fC gq aq ⟨aH, gr, rfl, bA, cY, cZ⟩
  have c0 := z0k cR
  refine .region (W.l1 aa ag22 (z0f (ft (aq 3 rfl) (ft (Y 3 rfl) (ft (ao 3 rfl) (ft (x 3 rfl) rfl)))) (At.raw (bA.atVar (j := 1) rfl))) (W.q2 _ cZ (W.ln (Lo.buildSlice (r := rS) (vs := [(.string aH)]) (xs := [aH]) el22 ze9 sz9 (by kernel_rfl) rfl (qc rfl qn) rfl (.cons rfl .nil) bA) ?_)))
  rintro gs gt ⟨bB, fD⟩
  obtain ⟨fE, c1, c2⟩ := z6i (j := 0) rfl bB
  obtain ⟨c3, c4⟩ := z38 c0
  refine W.ln (Lo.append (j := 3) (v := aa) rfl rfl el22 ni22 ze9 sz9 by9 (by decide) (by decide) rfl c1 c2 c3 bB) ?_
  rintro aI gu ⟨bC, fF⟩
  refine W.ln (Lo.storeVar (j := 2) (s := rV) (y0 := aI) (v := aI) (o := 0) rfl ((Put.at (Put.self _) _ _)) rfl sz22 (ft (aq 3 rfl) (ft (Y 3 rfl) (ft (ao 3 rfl) (ft (x 3 rfl) rfl)))) (by omega) rfl (zcn (bC.slLen (j := 3) rfl)) bC) ?_
  rintro gv gw ⟨c5, fG⟩
  refine .nil (.region (W.q3 (.int .i64 (z0u .i64 (am + 1))) (ft (aq 34 rfl) (ft (Y 34 rfl) bt)) rfl (W.p2 (.int .i64 (z0u .i64 (am + 1))) (.nil ?_))))
  have c6 := (c5.drop 0).drop 0
  exact ⟨br, zAg _, ⟨(bg ++ [aH]), z0u .i64 (am + 1), aI, _, c4, c6, (zAe aE (zAe cO cY)), rfl⟩⟩
 rintro fH gx E ⟨c7, c8, bD, rfl, aJ, c9⟩
 have da := z0k fr
 refine .seq (.region (W.pv (.func (.func 43) #[] #[(.pointer (some ⟨q, 0, none⟩))]) (z5x (z3l rfl mn) (z3l rfl (mc (ft (E 3 rfl) (ft (x 3 rfl) rfl)) mn))) (W.p1 (.func (.func 43) #[] #[(.pointer (some ⟨q, 0, none⟩))]) (.nil (.seq (.seq ?_))))))
 refine .region (W.pv (padd (.pointer (some ⟨u, 0, none⟩)) 2) (z0a zb1 (ou (ft (E 1 rfl) (ft (x 1 rfl) rfl))) (aJ.atVar (j := 2) rfl)) ?_)
 obtain ⟨bE, db, aK⟩ := At.sl (At.proj (aJ.atVar (j := 2) rfl) z25)
 refine W.l1 bE ag24 (z0f rfl db) (W.pv (.int .i64 (f.Branches.length : Int)) (z1j ov (z17 aK) (z02 el24)) (W.p2 (.int .i64 0) (.nil ?_)))
 obtain ⟨bF, dc, dd⟩ := z03 da
 refine AW.midT (fun i l => ∃ (g : List zAd) (w_l3 : Value) (e : GM), g = bF /\ Ow e l (eVar q 22 rV w_l3 :: eSl w_l3 9 rS g :: eVar u 29 z00 f :: L) /\ GM.le bD e) ?_ ?_
 .refine .block (AW.loop (α := Nat) (fun t i l => ∃ (g : List zAd) (C : Int) (w_l3 : Value) (e : GM), z29 K f t g C = some bF /\ Ow e l (eVar q 22 rV w_l3 :: eSl w_l3 9 rS g :: eVar u 29 z00 f :: L) /\ GM.le bD e /\ i 69 = .int .i64 C) (fun t => t) K ⟨c7, 0, c8, _, dc, aJ, (zAf _), rfl⟩ ?_)
  rintro aL
  rintro fI gy ar ⟨bG, S, bH, gz, au, aM, ac, aN⟩
  rcases aL with _ | aL
  .exact z0e au
  rw [z29] at au
  refine .seq (.region (W.q3 (.bool (decide (S < (f.Branches.length : Int)))) aN (ft (ar 68 rfl) rfl) (.nil (.seq (.cond (b := decide (S < (f.Branches.length : Int))) rfl rfl (fun aO => ?_) (fun aO => ?_))))))
  rotate_left
  .have de := z11 aO au
   refine .exit ?_
   obtain rfl := zAa de
   exact ⟨bG, bH, _, rfl, aM, ac⟩
  have df := z01 aO au
  refine .skip (.seq (.block (.seq (.region ?_))))
  obtain ⟨a, dg, dh⟩ := z03 df
  have aP := z1v dg
  refine W.pv (z5q bE (S.toNat * 9)) (z6h el24 sz59 (ou (ft (ar 67 rfl) rfl)) (ou aN) (z17 (RT.mono _ ac aK)) aP.1 aP.2.1) ?_
  obtain ⟨bI, di, bJ⟩ := (At.le (At.le (z47 aK aP.2.2) ac ac) (zAf _) aM.fro)
  refine W.loadA (cs := bI) rfl rfl ag59 sz59 (z0f rfl di) (RT.len _ bJ) (W.ln (Lo.alloc (r := z0i) (x0 := (Branch.mk ByteArray.empty ByteArray.empty ByteArray.empty 0 0 0 0 0 0)) ze59 (by kernel_rfl) zd6 aM) ?_)
  rintro gA gB ⟨y, rfl, dj, fJ⟩
  refine W.ln (Lo.storeVar (j := 0) (s := z0i) (y0 := a) (v := (.agg bI.toArray)) (o := 0) rfl ((Put.at (Put.self _) _ _)) rfl sz59 rfl (by omega) rfl bJ dj) ?_
  rintro gC gD ⟨I, fK⟩
  refine .nil (.region (W.q2 (.func (.func 43) #[] #[(.pointer (some ⟨q, 0, none⟩))]) (ft (ar 9 rfl) rfl) (W.pv (padd (.pointer (some ⟨y, 0, none⟩)) 0) (z0a zhl ov (I.atVar (j := 0) rfl)) (W.l1 (.string a.Name) ag9 (z0f rfl (At.str (At.proj (I.atVar (j := 0) rfl) z6l))) (W.pv (padd (.pointer (some ⟨y, 0, none⟩)) 1) (z0a zhm ov (I.atVar (j := 0) rfl)) (W.l1 (.string a.From) ag9 (z0f rfl (At.str (At.proj (I.atVar (j := 0) rfl) z6m))) ?_))))))
  refine W.pv (padd (.pointer (some ⟨y, 0, none⟩)) 2) (z0a zhn ov (I.atVar (j := 0) rfl)) (W.l1 (.string a.To) ag9 (z0f rfl (At.str (At.proj (I.atVar (j := 0) rfl) z82))) (W.ln (Lo.buildSlice (r := rS) (vs := [(.string (⟨#[98, 114, 97, 110, 99, 104]⟩ : zAd)), (.string a.Name), (.string a.From), (.string a.To)]) (xs := [(⟨#[98, 114, 97, 110, 99, 104]⟩ : zAd), a.Name, a.From, a.To]) el22 ze9 sz9 (by kernel_rfl) rfl (qc rfl (qc rfl (qc rfl (qc rfl qn)))) rfl (.cons rfl (.cons rfl (.cons rfl (.cons rfl .nil)))) I) ?_))
  rintro dk gE ⟨m, fL⟩
  refine W.pv (padd (.pointer (some ⟨y, 0, none⟩)) 3) (z0a zj1 ov (m.atVar (j := 1) rfl)) (W.l1 (.int .i64 a.X) ag3 (z0f rfl (At.int (At.proj (m.atVar (j := 1) rfl) zal))) (W.pv (padd (.pointer (some ⟨y, 0, none⟩)) 4) (z0a zj2 ov (m.atVar (j := 1) rfl)) (W.l1 (.int .i64 a.Tap) ag3 (z0f rfl (At.int (At.proj (m.atVar (j := 1) rfl) z8k))) (W.pv (padd (.pointer (some ⟨y, 0, none⟩)) 5) (z0a zj3 ov (m.atVar (j := 1) rfl)) (W.l1 (.int .i64 a.Shift) ag3 (z0f rfl (At.int (At.proj (m.atVar (j := 1) rfl) z76))) (W.pv (padd (.pointer (some ⟨y, 0, none⟩)) 6) (z0a zg7 ov (m.atVar (j := 1) rfl)) ?_))))))
  refine W.l1 (.int .i64 a.Limit) ag3 (z0f rfl (At.int (At.proj (m.atVar (j := 1) rfl) z5j))) (W.pv (padd (.pointer (some ⟨y, 0, none⟩)) 7) (z0a zj4 ov (m.atVar (j := 1) rfl)) (W.l1 (.int .i64 a.Short) ag3 (z0f rfl (At.int (At.proj (m.atVar (j := 1) rfl) z77))) (W.pv (padd (.pointer (some ⟨y, 0, none⟩)) 8) (z0a zj5 ov (m.atVar (j := 1) rfl)) (W.l1 (.int .i64 a.Hold) ag3 (z0f rfl (At.int (At.proj (m.atVar (j := 1) rfl) z7n))) (W.ln (Lo.buildSlice (r := (rI .i64)) (vs := [(.int .i64 a.X), (.int .i64 a.Tap), (.int .i64 a.Shift), (.int .i64 a.Limit), (.int .i64 a.Short), (.int .i64 a.Hold)]) (xs := [a.X, a.Tap, a.Shift, a.Limit, a.Short, a.Hold]) el82 ze3 sz3 (by kernel_rfl) rfl (qc rfl (qc rfl (qc rfl (qc rfl (qc rfl (qc rfl qn)))))) rfl (.cons rfl (.cons rfl (.cons rfl (.cons rfl (.cons rfl (.cons rfl .nil)))))) m) ?_)))))
  rintro dl gF ⟨dm, fM⟩
  obtain ⟨gG, dn, dp, dq⟩ := dm.frzSl (j := 1) rfl
  obtain ⟨gH, dr, bK, ds⟩ := dn.frzSl (j := 0) rfl
  have dt := (((dr.front (j := 3) rfl).front (j := 1) rfl).front (j := 3) rfl).front (j := 3) rfl
  obtain ⟨du, dv, dw⟩ := z03 dh
  refine W.ln (Lo.callvPF (ps := [_, _]) (pw := fun w => [_, _]) rfl rfl (fn := Tryd.f43) (by kernel_rfl) rfl (mc rfl (mc rfl mn)) dt (fun dx aQ => z55 K dk [(⟨#[98, 114, 97, 110, 99, 104]⟩ : zAd), a.Name, a.From, a.To] (RT.mono _ bK dq) dl [a.X, a.Tap, a.Shift, a.Limit, a.Short, a.Hold] ds q bH bG aQ _ dv)) ?_
  rintro gI gJ ⟨dy, gK, dz, dA, fN, rfl⟩
  refine .nil (.region (W.r3 (.int .i64 (z0u .i64 (S + 1))) aN (W.p2 (.int .i64 (z0u .i64 (S + 1))) (.nil ?_))))
  have dB := dz.drop 2
  exact ⟨aL, zAg _, ⟨du, z0u .i64 (S + 1), dy, _, dw, dB, (zAe ac (zAe dp (zAe bK dA))), rfl⟩⟩
 rintro fO gL z ⟨dC, dD, bL, rfl, aR, dE⟩
 have dF := z0k dd
 refine .seq (.seq (.region (W.pv (padd (.pointer (some ⟨u, 0, none⟩)) 3) (z0a zb2 (ou (ft (z 1 rfl) (ft (E 1 rfl) (ft (x 1 rfl) rfl)))) (aR.atVar (j := 2) rfl)) ?_)))
 obtain ⟨bM, dG, aS⟩ := At.sl (At.proj (aR.atVar (j := 2) rfl) z3a)
 refine W.l1 bM ag25 (z0f rfl dG) (W.pv (.int .i64 (f.Gens.length : Int)) (z1j ov (z17 aS) (z02 el25)) (W.p2 (.int .i64 0) (.nil ?_)))
 obtain ⟨bN, dH, dI⟩ := z03 dF
 refine AW.midT (fun i l => ∃ (g : List zAd) (w_l3 : Value) (e : GM), g = bN /\ Ow e l (eVar q 22 rV w_l3 :: eSl w_l3 9 rS g :: eVar u 29 z00 f :: L) /\ GM.le bL e) ?_ ?_
 .refine .block (AW.loop (α := Nat) (fun t i l => ∃ (g : List zAd) (C : Int) (w_l3 : Value) (e : GM), z2a K f t g C = some bN /\ Ow e l (eVar q 22 rV w_l3 :: eSl w_l3 9 rS g :: eVar u 29 z00 f :: L) /\ GM.le bL e /\ i 99 = .int .i64 C) (fun t => t) K ⟨dC, 0, dD, _, dH, aR, (zAf _), rfl⟩ ?_)
  rintro aT
  rintro fP gM av ⟨bO, T, bP, gN, aw, aU, ad, aV⟩
  rcases aT with _ | aT
  .exact z0e aw
  rw [z2a] at aw
  refine .seq (.region (W.q3 (.bool (decide (T < (f.Gens.length : Int)))) aV (ft (av 98 rfl) rfl) (.nil (.seq (.cond (b := decide (T < (f.Gens.length : Int))) rfl rfl (fun aW => ?_) (fun aW => ?_))))))
  rotate_left
  .have dJ := z11 aW aw
   refine .exit ?_
   obtain rfl := zAa dJ
   exact ⟨bO, bP, _, rfl, aU, ad⟩
  have dK := z01 aW aw
  refine .skip (.seq (.block (.seq (.region ?_))))
  obtain ⟨c, dL, dM⟩ := z03 dK
  have aX := z1v dL
  refine W.pv (z5q bM (T.toNat * 5)) (z6h el25 sz67 (ou (ft (av 97 rfl) rfl)) (ou aV) (z17 (RT.mono _ ad aS)) aX.1 aX.2.1) ?_
  obtain ⟨bQ, dN, bR⟩ := (At.le (At.le (z47 aS aX.2.2) ad ad) (zAf _) aU.fro)
  refine W.loadA (cs := bQ) rfl rfl ag67 sz67 (z0f rfl dN) (RT.len _ bR) (W.ln (Lo.alloc (r := z6b) (x0 := (Gen.mk ByteArray.empty ByteArray.empty 0 0 0)) ze67 (by kernel_rfl) zlq aU) ?_)
  rintro gO gP ⟨ae, rfl, dO, fQ⟩
  refine W.ln (Lo.storeVar (j := 0) (s := z6b) (y0 := c) (v := (.agg bQ.toArray)) (o := 0) rfl ((Put.at (Put.self _) _ _)) rfl sz67 rfl (by omega) rfl bR dO) ?_
  rintro gQ gR ⟨af, fR⟩
  refine .nil (.region (W.q2 (.func (.func 43) #[] #[(.pointer (some ⟨q, 0, none⟩))]) (ft (av 9 rfl) (ft (z 9 rfl) rfl)) (W.pv (padd (.pointer (some ⟨ae, 0, none⟩)) 0) (z0a zho ov (af.atVar (j := 0) rfl)) (W.l1 (.string c.Name) ag9 (z0f rfl (At.str (At.proj (af.atVar (j := 0) rfl) z9b))) (W.pv (padd (.pointer (some ⟨ae, 0, none⟩)) 1) (z0a zj6 ov (af.atVar (j := 0) rfl)) (W.l1 (.string c.Node) ag9 (z0f rfl (At.str (At.proj (af.atVar (j := 0) rfl) zam))) ?_))))))
  refine W.ln (Lo.buildSlice (r := rS) (vs := [(.string (⟨#[103, 101, 110]⟩ : zAd)), (.string c.Name), (.string c.Node)]) (xs := [(⟨#[103, 101, 110]⟩ : zAd), c.Name, c.Node]) el22 ze9 sz9 (by kernel_rfl) rfl (qc rfl (qc rfl (qc rfl qn))) rfl (.cons rfl (.cons rfl (.cons rfl .nil))) af) ?_
  rintro dP gS ⟨J, fT⟩
  refine W.pv (padd (.pointer (some ⟨ae, 0, none⟩)) 2) (z0a zg8 ov (J.atVar (j := 1) rfl)) (W.l1 (.int .i64 c.Least) ag3 (z0f rfl (At.int (At.proj (J.atVar (j := 1) rfl) z6x))) (W.pv (padd (.pointer (some ⟨ae, 0, none⟩)) 3) (z0a zj7 ov (J.atVar (j := 1) rfl)) (W.l1 (.int .i64 c.Most) ag3 (z0f rfl (At.int (At.proj (J.atVar (j := 1) rfl) zan))) (W.pv (padd (.pointer (some ⟨ae, 0, none⟩)) 4) (z0a zj8 ov (J.atVar (j := 1) rfl)) (W.l1 (.int .i64 c.Ramp) ag3 (z0f rfl (At.int (At.proj (J.atVar (j := 1) rfl) zao))) (W.ln (Lo.buildSlice (r := (rI .i64)) (vs := [(.int .i64 c.Least), (.int .i64 c.Most), (.int .i64 c.Ramp)]) (xs := [c.Least, c.Most, c.Ramp]) el82 ze3 sz3 (by kernel_rfl) rfl (qc rfl (qc rfl (qc rfl qn))) rfl (.cons rfl (.cons rfl (.cons rfl .nil))) J) ?_))))))
  rintro dQ gT ⟨dR, fU⟩
  obtain ⟨gU, dS, dT, dU⟩ := dR.frzSl (j := 1) rfl
  obtain ⟨gV, dV, bS, dW⟩ := dS.frzSl (j := 0) rfl
  have dX := (((dV.front (j := 3) rfl).front (j := 1) rfl).front (j := 3) rfl).front (j := 3) rfl
  obtain ⟨dY, dZ, d0⟩ := z03 dM
  refine W.ln (Lo.callvPF (ps := [_, _]) (pw := fun w => [_, _]) rfl rfl (fn := Tryd.f43) (by kernel_rfl) rfl (mc rfl (mc rfl mn)) dX (fun dx aQ => z55 K dP [(⟨#[103, 101, 110]⟩ : zAd), c.Name, c.Node] (RT.mono _ bS dU) dQ [c.Least, c.Most, c.Ramp] dW q bP bO aQ _ dZ)) ?_
  rintro gW gX ⟨d1, gY, d2, d3, fV, rfl⟩
  refine .nil (.region (W.r3 (.int .i64 (z0u .i64 (T + 1))) aV (W.p2 (.int .i64 (z0u .i64 (T + 1))) (.nil ?_))))
  have d4 := d2.drop 2
  exact ⟨aT, zAg _, ⟨dY, z0u .i64 (T + 1), d1, _, d0, d4, (zAe ad (zAe dT (zAe bS d3))), rfl⟩⟩
 rintro fW gZ N ⟨d5, d6, bT, rfl, aY, d7⟩
 have d8 := z0k dI
 refine .seq (.seq (.region (W.pv (padd (.pointer (some ⟨u, 0, none⟩)) 4) (z0a zb3 (ou (ft (N 1 rfl) (ft (z 1 rfl) (ft (E 1 rfl) (ft (x 1 rfl) rfl))))) (aY.atVar (j := 2) rfl)) ?_)))
 obtain ⟨bU, d9, aZ⟩ := At.sl (At.proj (aY.atVar (j := 2) rfl) z35)
 refine W.l1 bU ag26 (z0f rfl d9) (W.pv (.int .i64 (f.Loads.length : Int)) (z1j ov (z17 aZ) (z02 el26)) (W.p2 (.int .i64 0) (.nil ?_)))
 obtain ⟨bV, ea, eb⟩ := z03 d8
 refine AW.midT (fun i l => ∃ (g : List zAd) (w_l3 : Value) (e : GM), g = bV /\ Ow e l (eVar q 22 rV w_l3 :: eSl w_l3 9 rS g :: eVar u 29 z00 f :: L) /\ GM.le bT e) ?_ ?_
 .refine .block (AW.loop (α := Nat) (fun t i l => ∃ (g : List zAd) (C : Int) (w_l3 : Value) (e : GM), z2b K f t g C = some bV /\ Ow e l (eVar q 22 rV w_l3 :: eSl w_l3 9 rS g :: eVar u 29 z00 f :: L) /\ GM.le bT e /\ i 121 = .int .i64 C) (fun t => t) K ⟨d5, 0, d6, _, ea, aY, (zAf _), rfl⟩ ?_)
  rintro a0
  rintro fX g0 ax ⟨bW, U, bX, g1, ay, a1, ag, a2⟩
  rcases a0 with _ | a0
  .exact z0e ay
  rw [z2b] at ay
  refine .seq (.region (W.q3 (.bool (decide (U < (f.Loads.length : Int)))) a2 (ft (ax 120 rfl) rfl) (.nil (.seq (.cond (b := decide (U < (f.Loads.length : Int))) rfl rfl (fun a3 => ?_) (fun a3 => ?_))))))
  rotate_left
  .have ec := z11 a3 ay
   refine .exit ?_
   obtain rfl := zAa ec
   exact ⟨bW, bX, _, rfl, a1, ag⟩
  have ed := z01 a3 ay
  refine .skip (.seq (.block (.seq (.region ?_))))
  obtain ⟨p, ee, ef⟩ := z03 ed
  have a4 := z1v ee
  refine W.pv (z5q bU (U.toNat * 3)) (z6h el26 sz71 (ou (ft (ax 119 rfl) rfl)) (ou a2) (z17 (RT.mono _ ag aZ)) a4.1 a4.2.1) ?_
  obtain ⟨bY, eg, bZ⟩ := (At.le (At.le (z47 aZ a4.2.2) ag ag) (zAf _) a1.fro)
  refine W.loadA (cs := bY) rfl rfl ag71 sz71 (z0f rfl eg) (RT.len _ bZ) (W.ln (Lo.alloc (r := z1w) (x0 := (Load_.mk ByteArray.empty ByteArray.empty 0)) ze71 (by kernel_rfl) zgd a1) ?_)
  rintro g2 g3 ⟨a5, rfl, eh, fY⟩
  refine W.ln (Lo.storeVar (j := 0) (s := z1w) (y0 := p) (v := (.agg bY.toArray)) (o := 0) rfl ((Put.at (Put.self _) _ _)) rfl sz71 rfl (by omega) rfl bZ eh) ?_
  rintro g4 g5 ⟨ah, fZ⟩
  refine .nil (.region (W.q2 (.func (.func 43) #[] #[(.pointer (some ⟨q, 0, none⟩))]) (ft (ax 9 rfl) (ft (N 9 rfl) (ft (z 9 rfl) rfl))) (W.pv (padd (.pointer (some ⟨a5, 0, none⟩)) 0) (z0a zhp ov (ah.atVar (j := 0) rfl)) (W.l1 (.string p.Name) ag9 (z0f rfl (At.str (At.proj (ah.atVar (j := 0) rfl) z78))) (W.pv (padd (.pointer (some ⟨a5, 0, none⟩)) 1) (z0a zj9 ov (ah.atVar (j := 0) rfl)) (W.l1 (.string p.Node) ag9 (z0f rfl (At.str (At.proj (ah.atVar (j := 0) rfl) z8l))) ?_))))))
  refine W.ln (Lo.buildSlice (r := rS) (vs := [(.string (⟨#[108, 111, 97, 100]⟩ : zAd)), (.string p.Name), (.string p.Node)]) (xs := [(⟨#[108, 111, 97, 100]⟩ : zAd), p.Name, p.Node]) el22 ze9 sz9 (by kernel_rfl) rfl (qc rfl (qc rfl (qc rfl qn))) rfl (.cons rfl (.cons rfl (.cons rfl .nil))) ah) ?_
  rintro ei g6 ⟨a6, f0⟩
  refine W.pv (padd (.pointer (some ⟨a5, 0, none⟩)) 2) (z0a zja ov (a6.atVar (j := 1) rfl)) (W.l1 (.int .i64 p.Demand) ag3 (z0f rfl (At.int (At.proj (a6.atVar (j := 1) rfl) z79))) (W.ln (Lo.buildSlice (r := (rI .i64)) (vs := [(.int .i64 p.Demand)]) (xs := [p.Demand]) el82 ze3 sz3 (by kernel_rfl) rfl (qc rfl qn) rfl (.cons rfl .nil) a6) ?_))
  rintro ej g7 ⟨ek, f1⟩
  obtain ⟨g8, el, em, en⟩ := ek.frzSl (j := 1) rfl
  obtain ⟨g9, eo, b0, ep⟩ := el.frzSl (j := 0) rfl
  have eq := (((eo.front (j := 3) rfl).front (j := 1) rfl).front (j := 3) rfl).front (j := 3) rfl
  obtain ⟨er, es, et⟩ := z03 ef
  refine W.ln (Lo.callvPF (ps := [_, _]) (pw := fun w => [_, _]) rfl rfl (fn := Tryd.f43) (by kernel_rfl) rfl (mc rfl (mc rfl mn)) eq (fun dx aQ => z55 K ei [(⟨#[108, 111, 97, 100]⟩ : zAd), p.Name, p.Node] (RT.mono _ b0 en) ej [p.Demand] ep q bX bW aQ _ es)) ?_
  rintro ha hb ⟨eu, hc, ev, ew, f2, rfl⟩
  refine .nil (.region (W.r3 (.int .i64 (z0u .i64 (U + 1))) a2 (W.p2 (.int .i64 (z0u .i64 (U + 1))) (.nil ?_))))
  have ex := ev.drop 2
  exact ⟨a0, zAg _, ⟨er, z0u .i64 (U + 1), eu, _, et, ex, (zAe ag (zAe em (zAe b0 ew))), rfl⟩⟩
 rintro f3 hd az ⟨ey, ez, b1, rfl, a7, eA⟩
 have eB := z0k eb
 refine .seq (.seq (.region (W.pv (padd (.pointer (some ⟨u, 0, none⟩)) 5) (z0a zb4 (ou (ft (az 1 rfl) (ft (N 1 rfl) (ft (z 1 rfl) (ft (E 1 rfl) (ft (x 1 rfl) rfl)))))) (a7.atVar (j := 2) rfl)) ?_)))
 obtain ⟨b2, eC, a8⟩ := At.sl (At.proj (a7.atVar (j := 2) rfl) z2q)
 refine W.l1 b2 ag27 (z0f rfl eC) (W.pv (.int .i64 (f.Stores.length : Int)) (z1j ov (z17 a8) (z02 el27)) (W.p2 (.int .i64 0) (.nil ?_)))
 obtain ⟨b3, eD, eE⟩ := z03 eB
 refine AW.midT (fun i l => ∃ (g : List zAd) (w_l3 : Value) (e : GM), g = b3 /\ Ow e l (eVar q 22 rV w_l3 :: eSl w_l3 9 rS g :: eVar u 29 z00 f :: L) /\ GM.le b1 e) ?_ ?_
 rotate_left
 .rintro f4 he ca ⟨hf, aA, hg, rfl, b4, eF⟩
  have fz := zAe fm (zAe c9 (zAe dE (zAe d7 (zAe eA eF))))
  have eG := z0k eE
  refine .seq (.region (W.l1 aA ag22 (z0f (ft (ca 3 rfl) (ft (az 3 rfl) (ft (N 3 rfl) (ft (z 3 rfl) (ft (E 3 rfl) (ft (x 3 rfl) rfl)))))) (At.raw (b4.atVar (j := 0) rfl))) (W.p1 aA (.nil (.ret ?_)))))
  have eH := (b4.drop 0).drop 1
  obtain rfl := zAa eG
  exact z4a kr aA (v1 := aA) (by rfl) rt eH fz rfl
 refine .block (AW.loop (α := Nat) (fun t i l => ∃ (g : List zAd) (C : Int) (w_l3 : Value) (e : GM), z1z K f t g C = some b3 /\ Ow e l (eVar q 22 rV w_l3 :: eSl w_l3 9 rS g :: eVar u 29 z00 f :: L) /\ GM.le b1 e /\ i 139 = .int .i64 C) (fun t => t) K ⟨ey, 0, ez, _, eD, a7, (zAf _), rfl⟩ ?_)
 rintro a9
 rintro f5 hh aB ⟨b5, V, b6, hi, aC, ba, ai, bb⟩
 rcases a9 with _ | a9
 .exact z0e aC
 rw [z1z] at aC
 refine .seq (.region (W.q3 (.bool (decide (V < (f.Stores.length : Int)))) bb (ft (aB 138 rfl) rfl) (.nil (.seq (.cond (b := decide (V < (f.Stores.length : Int))) rfl rfl (fun bc => ?_) (fun bc => ?_))))))
 rotate_left
 .have eI := z11 bc aC
  refine .exit ?_
  obtain rfl := zAa eI
  exact ⟨b5, b6, _, rfl, ba, ai⟩
 have eJ := z01 bc aC
 refine .skip (.seq (.block (.seq (.region ?_))))
 obtain ⟨d, eK, eL⟩ := z03 eJ
 have bd := z1v eK
 refine W.pv (z5q b2 (V.toNat * 5)) (z6h el27 sz75 (ou (ft (aB 137 rfl) rfl)) (ou bb) (z17 (RT.mono _ ai a8)) bd.1 bd.2.1) ?_
 obtain ⟨b7, eM, b8⟩ := (At.le (At.le (z47 a8 bd.2.2) ai ai) (zAf _) ba.fro)
 refine W.loadA (cs := b7) rfl rfl ag75 sz75 (z0f rfl eM) (RT.len _ b8) (W.ln (Lo.alloc (r := z1o) (x0 := (Store.mk ByteArray.empty ByteArray.empty 0 0 0)) ze75 (by kernel_rfl) zge ba) ?_)
 rintro hj hk ⟨aj, rfl, eN, f6⟩
 refine W.ln (Lo.storeVar (j := 0) (s := z1o) (y0 := d) (v := (.agg b7.toArray)) (o := 0) rfl ((Put.at (Put.self _) _ _)) rfl sz75 rfl (by omega) rfl b8 eN) ?_
 rintro hl hm ⟨ak, f7⟩
 refine .nil (.region (W.q2 (.func (.func 43) #[] #[(.pointer (some ⟨q, 0, none⟩))]) (ft (aB 9 rfl) (ft (az 9 rfl) (ft (N 9 rfl) (ft (z 9 rfl) rfl)))) (W.pv (padd (.pointer (some ⟨aj, 0, none⟩)) 0) (z0a zhq ov (ak.atVar (j := 0) rfl)) (W.l1 (.string d.Name) ag9 (z0f rfl (At.str (At.proj (ak.atVar (j := 0) rfl) z7a))) (W.pv (padd (.pointer (some ⟨aj, 0, none⟩)) 1) (z0a zjb ov (ak.atVar (j := 0) rfl)) (W.l1 (.string d.Node) ag9 (z0f rfl (At.str (At.proj (ak.atVar (j := 0) rfl) z8m))) ?_))))))
 refine W.ln (Lo.buildSlice (r := rS) (vs := [(.string (⟨#[115, 116, 111, 114, 101]⟩ : zAd)), (.string d.Name), (.string d.Node)]) (xs := [(⟨#[115, 116, 111, 114, 101]⟩ : zAd), d.Name, d.Node]) el22 ze9 sz9 (by kernel_rfl) rfl (qc rfl (qc rfl (qc rfl qn))) rfl (.cons rfl (.cons rfl (.cons rfl .nil))) ak) ?_
 rintro eO hn ⟨M, f8⟩
 refine W.pv (padd (.pointer (some ⟨aj, 0, none⟩)) 2) (z0a zjc ov (M.atVar (j := 1) rfl)) (W.l1 (.int .i64 d.Charge) ag3 (z0f rfl (At.int (At.proj (M.atVar (j := 1) rfl) z7b))) (W.pv (padd (.pointer (some ⟨aj, 0, none⟩)) 3) (z0a zjd ov (M.atVar (j := 1) rfl)) (W.l1 (.int .i64 d.Discharge) ag3 (z0f rfl (At.int (At.proj (M.atVar (j := 1) rfl) z5z))) (W.pv (padd (.pointer (some ⟨aj, 0, none⟩)) 4) (z0a zje ov (M.atVar (j := 1) rfl)) (W.l1 (.int .i64 d.Capacity) ag3 (z0f rfl (At.int (At.proj (M.atVar (j := 1) rfl) z6c))) (W.ln (Lo.buildSlice (r := (rI .i64)) (vs := [(.int .i64 d.Charge), (.int .i64 d.Discharge), (.int .i64 d.Capacity)]) (xs := [d.Charge, d.Discharge, d.Capacity]) el82 ze3 sz3 (by kernel_rfl) rfl (qc rfl (qc rfl (qc rfl qn))) rfl (.cons rfl (.cons rfl (.cons rfl .nil))) M) ?_))))))
 rintro eP ho ⟨eQ, f9⟩
 obtain ⟨hp, eR, eS, eT⟩ := eQ.frzSl (j := 1) rfl
 obtain ⟨hq, eU, b9, eV⟩ := eR.frzSl (j := 0) rfl
 have eW := (((eU.front (j := 3) rfl).front (j := 1) rfl).front (j := 3) rfl).front (j := 3) rfl
 obtain ⟨eX, eY, eZ⟩ := z03 eL
 refine W.ln (Lo.callvPF (ps := [_, _]) (pw := fun w => [_, _]) rfl rfl (fn := Tryd.f43) (by kernel_rfl) rfl (mc rfl (mc rfl mn)) eW (fun dx aQ => z55 K eO [(⟨#[115, 116, 111, 114, 101]⟩ : zAd), d.Name, d.Node] (RT.mono _ b9 eT) eP [d.Charge, d.Discharge, d.Capacity] eV q b6 b5 aQ _ eY)) ?_
 rintro hr hs ⟨e0, ht, e1, e2, ga, rfl⟩
 refine .nil (.region (W.r3 (.int .i64 (z0u .i64 (V + 1))) bb (W.p2 (.int .i64 (z0u .i64 (V + 1))) (.nil ?_))))
 have e3 := e1.drop 2
 exact ⟨a9, zAg _, ⟨eX, z0u .i64 (V + 1), e0, _, eZ, e3, (zAe ai (zAe eS (zAe b9 e2))), rfl⟩⟩
def z0t (K : Nat) (a : Network) : Option Bool := ((z4j K a).bind fun b => some ((b.length : Int) == 0))
theorem z1f (d : List Value) (a : Network) (e : z00.rep G d a) (O : Ow G H (L)) (r : Bool) (h : z0t K a = some r) :
    CR Tryd.prog 9 [.agg d.toArray] G H (L) (fun v A _ => v = .bool r) := by
 unfold z0t at h
 refine CR.og (n := 7) (fn := Tryd.f9) (by kernel_rfl) rfl rfl fun R kr => (.seq (.region (W.ln (Lo.box (r := z00) (x0 := a) (v := (.agg d.toArray)) rfl rfl e O) ?_)))
 rintro B C ⟨E, rfl, f, t⟩
 refine W.p1 (.bool false) (.nil (.seq (.region ?_)))
 obtain ⟨g, p, i⟩ := (f.atVar (j := 0) rfl)
 refine W.loadA (cs := g) rfl rfl ag29 sz29 (z0f rfl p) (RT.len _ i) ?_
 obtain ⟨b, k, l⟩ := z03 h
 refine W.ln (Lo.qF Tryd.f10 (ps := []) (pw := fun w => [_]) (mc rfl mn) f (fun F q => z5v K g a i q _ k)) ?_
 rintro u x ⟨y, z, c, m, s, rfl⟩
 refine W.pv (.int .i64 (b.length : Int)) (z1j ov (c.slLen (j := 0) rfl) (z02 el22)) (W.p3 (.bool ((b.length : Int) == 0)) (W.p1 (.bool ((b.length : Int) == 0)) (.nil (.ret ?_))))
 have o := (c.drop 0).drop 0
 obtain rfl := zAa l
 exact z41 kr (v1 := (.bool ((b.length : Int) == 0))) (by rfl) rt o m rfl
def z4k (K : Nat) (c : zAd) : Nat -> Int -> Option (Bool ⊕ Unit)
  | 0, _ => none
  | k + 1, b => (if (decide (b < (c.size : Int))) = true then ((bidx c b).bind fun a => (Option.bind ((if (decide (a < 65)) = true then (if (decide (a < 48)) = true then some true else some (decide (a > 57))) else (if (decide (a > 90)) = true then (if (decide (a < 48)) = true then some true else some (decide (a > 57))) else some false))) (tu1 fun d => (if d = true then some (.inl false) else z4k K c k (z0u .i64 (b + 1)))))) else some (.inr ()))
def z7o (K : Nat) (a : zAd) : Option Bool := (Option.bind ((if ((a.size : Int) == 0) = true then some true else (if (decide ((a.size : Int) > 8)) = true then some true else ((bidx a 0).bind fun b => (if (decide (b < 65)) = true then some true else ((bidx a 0).bind fun c => some (decide (c > 90)))))))) (tu1 fun d => (if d = true then some false else (z66 (z4k K a K 0) (tu1 fun e => some e) (tu0 (some true))))))
theorem zch (d : zAd) (O : Ow G H (L)) (r : Bool) (h : z7o K d = some r) :
    CR Tryd.prog 46 [(.string d)] G H (L) (fun v l _ => v = .bool r) := by
 unfold z7o at h
 refine CR.og (n := 46) (fn := Tryd.f46) (by kernel_rfl) rfl rfl fun R kr => (.seq (.region (W.p1 (.bool false) (.nil (.seq (.seq ?_))))))
 obtain ⟨aV, al, aW⟩ := z03 h
 refine AW.midT (fun o u => ∃ (q : Bool) (l : GM), q = aV /\ Ow l u (L) /\ GM.le G l /\ o 22 = .bool q) ?_ ?_
 .refine .region (W.p2 (.string d) (W.pv (.int .i64 (d.size : Int)) (z9r ov un9) (W.p3 (.bool ((d.size : Int) == 0)) (W.p2 (.bool ((d.size : Int) == 0)) (W.splitAt (t := 8) (b := ((d.size : Int) == 0)) rfl (fun ah j => ?_) (fun ah j => ?_))))))
  .have aX := z01 ah al
   refine W.q6 rfl j (W.q6 rfl j (W.q6 rfl j (W.q4 (.bool true) j rfl (W.p2 (.bool true) (W.q6 rfl rfl (W.q6 rfl rfl ?_))))))
   refine W.q6 rfl rfl (W.q4 (.bool true) rfl rfl (W.p2 (.bool true) (W.q6 rfl rfl (W.q6 rfl rfl (W.q6 rfl rfl (W.q4 (.bool true) rfl rfl ?_))))))
   refine .nil ?_
   obtain rfl := zAa aX
   exact ⟨true, _, rfl, O, (zAf _), rfl⟩
  have am := z11 ah al
  refine W.q2 (hg := gk rfl rfl j rfl) (.string d) rfl (W.pure (v := (.int .i64 (d.size : Int))) (gl rfl j) rfl (z9r ov un9) (W.q3 (hg := gk rfl rfl j rfl) (.bool (decide ((d.size : Int) > 8))) rfl rfl (W.q5 (.bool (decide ((d.size : Int) > 8))) j rfl (W.p2 (.bool (decide ((d.size : Int) > 8))) (W.splitAt (t := 13) (b := decide ((d.size : Int) > 8)) rfl (fun ai k => ?_) (fun ai k => ?_))))))
  .have an := z01 ai am
   refine W.q6 rfl k (W.q6 rfl k (W.q6 rfl k (W.q4 (.bool true) k rfl (W.p2 (.bool true) (W.q6 rfl rfl (W.q6 rfl rfl ?_))))))
   refine W.q6 rfl rfl (W.q4 (.bool true) rfl rfl (.nil ?_))
   obtain rfl := zAa an
   exact ⟨true, _, rfl, O, (zAf _), rfl⟩
  have ao := z11 ai am
  refine W.q2 (hg := gk rfl rfl k rfl) (.string d) rfl ?_
  obtain ⟨s, ap, T⟩ := z03 ao
  refine W.pure (v := (.int .u8 s)) (gl rfl k) rfl (zj0 un9 ov ov ap) (W.q3 (hg := gk rfl rfl k rfl) (.bool (decide (s < 65))) rfl rfl (W.q5 (.bool (decide (s < 65))) k rfl (W.p2 (.bool (decide (s < 65))) (W.splitAt (t := 18) (b := decide (s < 65)) rfl (fun y e => ?_) (fun y e => ?_)))))
  .have aq := z01 y T
   refine W.q6 rfl e (W.q6 rfl e (W.q6 rfl e (W.q4 (.bool true) e rfl (.nil ?_))))
   obtain rfl := zAa aq
   exact ⟨true, _, rfl, O, (zAf _), rfl⟩
  have ar := z11 y T
  refine W.q2 (hg := gk rfl rfl e rfl) (.string d) rfl ?_
  obtain ⟨w, au, av⟩ := z03 ar
  refine W.pure (v := (.int .u8 w)) (gl rfl e) rfl (zj0 un9 ov ov au) (W.q3 (hg := gk rfl rfl e rfl) (.bool (decide (w > 90))) rfl rfl (W.q5 (.bool (decide (w > 90))) e rfl (.nil ?_)))
  obtain rfl := zAa av
  exact ⟨decide (w > 90), _, rfl, O, (zAf _), rfl⟩
 rintro aY a3 z ⟨aw, U, rfl, V, A, ax⟩
 have X := z0k aW
 refine .cond (b := aw) rfl ax (fun B => ?_) (fun B => ?_)
 .have ay := z01 B X
  refine .seq (.region (W.p1 (.bool false) (.nil (.ret ?_))))
  obtain rfl := zAa ay
  exact z41 kr (v1 := (.bool false)) (by rfl) rt V A rfl
 have az := z11 B X
 refine .skip (.seq (.seq (.region (W.q2 (.string d) (ft (z 0 rfl) rfl) (W.pv (.int .i64 (d.size : Int)) (z9r ov un9) (W.p2 (.int .i64 0) ?_))))))
 refine .nil ?_
 obtain ⟨Y, aA, Z⟩ := z2f az
 refine AW.midT (fun o u => ∃  (l : GM), (.inr ()) = Y /\ Ow l u (L) /\ GM.le U l) ?_ ?_
 rotate_left
 .rintro aZ a4 a0 ⟨a5, rfl, aB, aC⟩
  have aD := z6j (z67 Z)
  refine .seq (.region (W.p1 (.bool true) (.nil (.ret ?_))))
  obtain rfl := zAa aD
  exact z41 kr (v1 := (.bool true)) (by rfl) rt aB (zAe A aC) rfl
 refine .block (AW.loop (α := Nat) (fun aj o u => ∃ (q : Int) (l : GM), z4k K d aj q = some Y /\ Ow l u (L) /\ GM.le U l /\ o 25 = .int .i64 q) (fun aj => aj) K ⟨0, _, aA, V, (zAf _), rfl⟩ ?_)
 rintro C
 rintro a1 a6 E ⟨m, aE, x, p, F, I⟩
 rcases C with _ | C
 .exact z0e x
 rw [z4k] at x
 refine .seq (.region (W.q3 (.bool (decide (m < (d.size : Int)))) I (ft (E 24 rfl) rfl) (.nil (.seq (.cond (b := decide (m < (d.size : Int))) rfl rfl (fun J => ?_) (fun J => ?_))))))
 rotate_left
 .have aF := z11 J x
  refine .exit ?_
  obtain rfl := zAa aF
  exact ⟨_, rfl, p, F⟩
 have aG := z01 J x
 refine .skip (.seq (.block (.seq (.region (W.q2 _ I (W.p1 (.int .i64 m) ?_))))))
 refine .nil (.seq (.region (W.q2 (.string d) (ft (E 0 rfl) (ft (z 0 rfl) rfl)) (W.p2 (.int .i64 m) ?_))))
 obtain ⟨a, aH, aI⟩ := z03 aG
 refine W.pv (.int .u8 a) (zj0 un9 ov ov aH) (W.p1 (.int .u8 a) (.nil (.seq ?_)))
 obtain ⟨aJ, aa, aK⟩ := z03 aI
 refine AW.midT (fun o u => ∃ (q : Bool) (l : GM), q = aJ /\ Ow l u (L) /\ GM.le aE l /\ o 44 = .bool q) ?_ ?_
 rotate_left
 .rintro a2 a7 ak ⟨aL, a8, rfl, ab, ac, aM⟩
  have ad := z0k aK
  refine .cond (b := aL) rfl aM (fun M => ?_) (fun M => ?_)
  .have aN := z01 M ad
   refine .seq (.region (W.p1 (.bool false) (.nil (.ret ?_))))
   obtain rfl := zAa aN
   have aO := z0k (z4x Z)
   obtain rfl := zAa aO
   exact z41 kr (v1 := (.bool false)) (by rfl) rt ab (zAe A (zAe F ac)) rfl
  have aP := z11 M ad
  refine .skip (.region (W.q3 (.int .i64 (z0u .i64 (m + 1))) (ft (ak 25 rfl) I) rfl (W.p2 (.int .i64 (z0u .i64 (m + 1))) (.nil ?_))))
  exact ⟨C, zAg _, ⟨z0u .i64 (m + 1), _, aP, ab, (zAe F ac), rfl⟩⟩
 refine .region (W.p2 (.int .u8 a) (W.p3 (.bool (decide (a < 65))) (W.p2 (.bool (decide (a < 65))) (W.splitAt (t := 33) (b := decide (a < 65)) rfl (fun N f => ?_) (fun N f => ?_)))))
 .have ae := z01 N aa
  refine W.q6 rfl f (W.q6 rfl f (W.q4 (.bool true) f rfl (W.p2 (.bool true) (W.q2 (hg := gk rfl rfl rfl rfl) (.int .u8 a) rfl (W.q3 (hg := gk rfl rfl rfl rfl) (.bool (decide (a < 48))) rfl rfl (W.q2 (hg := gk rfl rfl rfl rfl) (.bool (decide (a < 48))) rfl ?_))))))
  refine W.splitAt (t := 40) (b := decide (a < 48)) rfl (fun P g => ?_) (fun P g => ?_)
  .have aQ := z01 P ae
   refine W.q6 rfl g (W.q6 rfl g (W.q4 (hg := gk rfl rfl rfl rfl) (.bool true) g rfl (W.q4 (.bool true) rfl rfl (.nil ?_))))
   obtain rfl := zAa aQ
   exact ⟨true, _, rfl, p, (zAf _), rfl⟩
  have aR := z11 P ae
  refine W.q2 (hg := gk rfl rfl g rfl) (.int .u8 a) rfl (W.q3 (hg := gk rfl rfl g rfl) (.bool (decide (a > 57))) rfl rfl (W.q5 (hg := gk rfl rfl rfl rfl) (.bool (decide (a > 57))) g rfl (W.q4 (.bool (decide (a > 57))) rfl rfl (.nil ?_))))
  obtain rfl := zAa aR
  exact ⟨decide (a > 57), _, rfl, p, (zAf _), rfl⟩
 have af := z11 N aa
 refine W.q2 (hg := gk rfl rfl f rfl) (.int .u8 a) rfl (W.q3 (hg := gk rfl rfl f rfl) (.bool (decide (a > 90))) rfl rfl (W.q5 (.bool (decide (a > 90))) f rfl (W.p2 (.bool (decide (a > 90))) (W.splitAt (t := 37) (b := decide (a > 90)) rfl (fun Q c => ?_) (fun Q c => ?_)))))
 rotate_left
 .have aS := z11 Q af
  refine W.q6 rfl c (W.q6 rfl c (W.q6 rfl c (W.skipU rfl rfl rfl rfl (W.skipU rfl rfl rfl rfl (W.q6 rfl c (W.q5 (.bool false) c rfl ?_))))))
  refine .nil ?_
  obtain rfl := zAa aS
  exact ⟨false, _, rfl, p, (zAf _), rfl⟩
 have ag := z01 Q af
 refine W.q2 (hg := gk rfl rfl c rfl) (.int .u8 a) rfl (W.q3 (hg := gk rfl rfl c rfl) (.bool (decide (a < 48))) rfl rfl (W.q2 (hg := gk rfl rfl c rfl) (.bool (decide (a < 48))) rfl (W.splitAt (t := 40) (b := decide (a < 48)) rfl (fun S i => ?_) (fun S i => ?_))))
 .have aT := z01 S ag
  refine W.q6 rfl i (W.q6 rfl i (W.q4 (hg := gk rfl rfl c rfl) (.bool true) i rfl (W.q4 (.bool true) c rfl (.nil ?_))))
  obtain rfl := zAa aT
  exact ⟨true, _, rfl, p, (zAf _), rfl⟩
 have aU := z11 S ag
 refine W.q2 (hg := gk rfl rfl i rfl) (.int .u8 a) rfl (W.q3 (hg := gk rfl rfl i rfl) (.bool (decide (a > 57))) rfl rfl (W.q5 (hg := gk rfl rfl c rfl) (.bool (decide (a > 57))) i rfl (W.q4 (.bool (decide (a > 57))) c rfl (.nil ?_))))
 obtain rfl := zAa aU
 exact ⟨decide (a > 57), _, rfl, p, (zAf _), rfl⟩
def z2y (K : Nat) (b : List zAd) (c : zAd) : Nat -> Int -> Option (Int ⊕ Unit)
  | 0, _ => none
  | k + 1, a => (if (decide (a < (b.length : Int))) = true then ((idx b a).bind fun d => (if (sEq d c) = true then some (.inl a) else z2y K b c k (z0u .i64 (a + 1)))) else some (.inr ()))
def z7c (K : Nat) (b : List zAd) (c : zAd) : Option Int := (z66 (z2y K b c K 0) (tu1 fun a => some a) (tu0 (some (-1))))
theorem zap (s : Value) (i : List zAd) (l : (rSl rS).rep G [s] i) (j : zAd) (O : Ow G H (L)) (r : Int) (h : z7c K i j = some r) :
    CR Tryd.prog 49 [s, (.string j)] G H (L) (fun v k _ => v = .int .i64 r) := by
 unfold z7c at h
 refine CR.og (n := 19) (fn := Tryd.f49) (by kernel_rfl) rfl rfl fun R kr => (.seq (.region (W.p1 (.int .i64 0) (.nil (.seq (.seq ?_))))))
 refine .region (W.p2 s (W.pv (.int .i64 (i.length : Int)) (z1j ov (z17 l) (z02 el22)) (W.p2 (.int .i64 0) (.nil ?_))))
 obtain ⟨z, S, A⟩ := z2f h
 refine AW.midT (fun t w => ∃  (k : GM), (.inr ()) = z /\ Ow k w (L) /\ GM.le G k) ?_ ?_
 rotate_left
 .rintro T V U ⟨X, rfl, B, C⟩
  have E := z6j (z67 A)
  refine .seq (.region (W.p1 (.int .i64 (-1)) (.nil (.ret ?_))))
  obtain rfl := zAa E
  exact z41 kr (v1 := (.int .i64 (-1))) (by rfl) rt B C rfl
 refine .block (AW.loop (α := Nat) (fun x t w => ∃ (F : Int) (k : GM), z2y K i j x F = some z /\ Ow k w (L) /\ GM.le G k /\ t 9 = .int .i64 F) (fun x => x) K ⟨0, _, S, O, (zAf _), rfl⟩ ?_)
 rintro y
 rintro Y Z m ⟨a, aa, e, f, c, g⟩
 rcases y with _ | y
 .exact z0e e
 rw [z2y] at e
 refine .seq (.region (W.q3 (.bool (decide (a < (i.length : Int)))) g (ft (m 8 rfl) rfl) (.nil (.seq (.cond (b := decide (a < (i.length : Int))) rfl rfl (fun o => ?_) (fun o => ?_))))))
 rotate_left
 .have I := z11 o e
  refine .exit ?_
  obtain rfl := zAa I
  exact ⟨_, rfl, f, c⟩
 have J := z01 o e
 refine .skip (.seq (.block (.seq (.region (W.q2 _ g ?_)))))
 obtain ⟨d, M, u⟩ := z03 J
 have p := z1v M
 refine W.pv (z5q s (a.toNat * 1)) (z6h el22 sz9 (ou (ft (m 7 rfl) rfl)) (ou g) (z17 (RT.mono _ c l)) p.1 p.2.1) (W.l1 (.string d) ag9 (z0f rfl (At.str (At.le (At.le (z47 l p.2.2) c c) (zAf _) f.fro))) (W.p1 (.int .i64 a) (W.p1 (.string d) (.nil (.seq (.region ?_))))))
 refine W.p2 (.string d) (W.q2 (.string j) (ft (m 1 rfl) rfl) (W.pv (.bool (sEq d j)) (z69 ov ov) (.nil (.cond (b := sEq d j) rfl rfl (fun q => ?_) (fun q => ?_)))))
 rotate_left
 .have N := z11 q u
  refine .skip (.region (W.r3 (.int .i64 (z0u .i64 (a + 1))) g (W.p2 (.int .i64 (z0u .i64 (a + 1))) (.nil ?_))))
  exact ⟨y, zAg _, ⟨z0u .i64 (a + 1), _, N, f, c, rfl⟩⟩
 have P := z01 q u
 refine .seq (.region (W.p2 (.int .i64 a) (W.p1 (.int .i64 a) (.nil (.ret ?_)))))
 obtain rfl := zAa P
 have Q := z0k (z4x A)
 obtain rfl := zAa Q
 exact z41 kr (v1 := (.int .i64 a)) (by rfl) rt f c rfl
def zbe (K : Nat) (a : List zAd) (b : zAd) : Option Bool := ((z7c K a b).bind fun c => some (decide (c >= 0)))
theorem zci (a : Value) (c : List zAd) (e : (rSl rS).rep G [a] c) (b : zAd) (O : Ow G H (L)) (r : Bool) (h : zbe K c b = some r) :
    CR Tryd.prog 47 [a, (.string b)] G H (L) (fun v p _ => v = .bool r) := by
 unfold zbe at h
 refine CR.og (n := 9) (fn := Tryd.f47) (by kernel_rfl) rfl rfl fun R kr => (.seq (.region (W.p1 (.bool false) (.nil (.seq (.region ?_))))))
 refine W.p2 a (W.p2 (.string b) ?_)
 obtain ⟨d, f, g⟩ := z03 h
 refine W.ln (Lo.cQ Tryd.f49 (mc rfl (mc rfl mn)) O (fun q i => zap K a c e b i _ f)) ?_
 rintro l m ⟨s, j, k, o, rfl⟩
 refine W.p3 (.bool (decide (d >= 0))) (W.p1 (.bool (decide (d >= 0))) (.nil (.ret ?_)))
 obtain rfl := zAa g
 exact z41 kr (v1 := (.bool (decide (d >= 0)))) (by rfl) rt j k rfl
def z4r (K : Nat) (b : zAd) (a : List zAd) : Option (Int × List zAd) := ((z7o K b).bind fun d => (if (!d) = true then some (5, a) else ((zbe K a b).bind fun c => (if c = true then some (7, a) else (if a.length + [b].length <= 16777216 then some (0, (a ++ [b])) else none)))))
theorem z7g (c : zAd) (p : Nat) (v1 : Value) (q : List zAd) (O : Ow G H (eVar p 22 rV v1 :: eSl v1 9 rS q :: L)) (r : Int × List zAd) (h : z4r K c q = some r) :
    CRF Tryd.prog 45 [(.string c), .pointer (some ⟨p, 0, none⟩)] G H (fun wl => (eVar p 22 rV wl :: eSl wl 9 rS r.2 :: L)) (fun wl v S => v = .int .i64 r.1) := by
 unfold z4r at h
 refine CRF.og (n := 14) (fn := Tryd.f45) (by kernel_rfl) rfl rfl fun R kr => (.seq (.region (W.p1 (.int .i64 0) (.nil (.seq (.seq ?_))))))
 refine .region (W.p2 (.string c) ?_)
 obtain ⟨t, T, y⟩ := z03 h
 refine W.ln (Lo.cQ Tryd.f46 (mc rfl mn) O (fun U u => zch K c u _ T)) ?_
 rintro ac ad ⟨am, w, x, V, rfl⟩
 refine W.pv (.bool (!t)) (z26 (a := t) ov) (.nil (.cond (b := (!t)) rfl rfl (fun d => ?_) (fun d => ?_)))
 .have z := z01 d y
  refine .seq (.region (W.p1 (.int .i64 5) (.nil (.ret ?_))))
  obtain rfl := zAa z
  exact z4a kr v1 (v1 := (.int .i64 5)) (by rfl) rt w x rfl
 have A := z11 d y
 refine .skip (.seq (.seq (.region (W.l1 v1 ag22 (z0f rfl (At.raw (w.atVar (j := 0) rfl))) (W.p2 (.string c) ?_)))))
 obtain ⟨B, C, i⟩ := z03 A
 refine W.ln (Lo.callB (j := 1) rfl rfl (fn := Tryd.f47) (by kernel_rfl) rfl (mc rfl (mc rfl mn)) w (fun S U hG u hB => zci K v1 q hB c u _ C)) ?_
 rintro ae af ⟨ag, e, k, X, rfl⟩
 refine .nil (.cond (b := B) rfl rfl (fun f => ?_) (fun f => ?_))
 .have E := z01 f i
  refine .seq (.region (W.p1 (.int .i64 7) (.nil (.ret ?_))))
  obtain rfl := zAa E
  exact z4a kr v1 (v1 := (.int .i64 7)) (by rfl) rt e (zAe x k) rfl
 have F := z11 f i
 refine .skip (.seq (.region (W.l1 v1 ag22 (z0f rfl (At.raw (e.atVar (j := 0) rfl))) (W.p2 (.string c) (W.ln (Lo.buildSlice (r := rS) (vs := [(.string c)]) (xs := [c]) el22 ze9 sz9 (by kernel_rfl) rfl (qc rfl qn) rfl (.cons rfl .nil) e) ?_)))))
 rintro ah ai ⟨l, Y⟩
 obtain ⟨Z, I, J⟩ := z6i (j := 0) rfl l
 obtain ⟨M, N⟩ := z38 F
 refine W.ln (Lo.append (j := 2) (v := v1) rfl rfl el22 ni22 ze9 sz9 by9 (by decide) (by decide) rfl I J M l) ?_
 rintro g aj ⟨m, aa⟩
 refine W.ln (Lo.storeVar (j := 1) (s := rV) (y0 := g) (v := g) (o := 0) rfl ((Put.at (Put.self _) _ _)) rfl sz22 rfl (by omega) rfl (zcn (m.slLen (j := 2) rfl)) m) ?_
 rintro ak al ⟨P, ab⟩
 refine .nil (.seq (.region (W.p1 (.int .i64 0) (.nil (.ret ?_)))))
 have Q := P.drop 0
 obtain rfl := zAa N
 exact z4a kr g (v1 := (.int .i64 0)) (by rfl) rt Q (zAe x k) rfl
def z7p (K : Nat) (a : Int) (b : Int) (c : Int) : Option Bool := (Option.bind ((if (decide (a < b)) = true then some false else some (!(decide (a > c))))) (tu1 fun d => some d))
theorem z4s (d : Int) (f : Int) (e : Int) (O : Ow G H (L)) (r : Bool) (h : z7p K d f e = some r) :
    CR Tryd.prog 68 [(.int .i64 d), (.int .i64 f), (.int .i64 e)] G H (L) (fun v g _ => v = .bool r) := by
 unfold z7p at h
 refine CR.og (n := 16) (fn := Tryd.f68) (by kernel_rfl) rfl rfl fun R kr => (.seq (.region (W.p1 (.bool false) (.nil (.seq ?_)))))
 obtain ⟨s, j, u⟩ := z03 h
 refine AW.midT (fun k w => ∃ (l : Bool) (g : GM), l = s /\ Ow g w (L) /\ GM.le G g /\ k 6 = .bool l) ?_ ?_
 rotate_left
 .rintro B C x ⟨y, E, rfl, m, o, p⟩
  have q := z0k u
  refine .ret ?_
  obtain rfl := zAa q
  exact z41 kr (v1 := (.bool y)) (by rfl) (zb0 (by rfl) (by exact p)) m o rfl
 refine .region (W.p2 (.int .i64 d) (W.p2 (.int .i64 f) (W.p3 (.bool (decide (d < f))) (W.p2 (.bool (decide (d < f))) (W.splitAt (t := 10) (b := decide (d < f)) rfl (fun i c => ?_) (fun i c => ?_))))))
 .have z := z01 i j
  refine W.q6 rfl c (W.q6 rfl c (W.q6 rfl c (W.q4 (.bool true) c rfl (W.pv (.bool false) (z26 (a := true) ov) (W.p1 (.bool false) (.nil ?_))))))
  obtain rfl := zAa z
  exact ⟨false, _, rfl, O, (zAf _), rfl⟩
 have A := z11 i j
 refine W.q2 (hg := gk rfl rfl c rfl) (.int .i64 d) rfl (W.q2 (hg := gk rfl rfl c rfl) (.int .i64 e) rfl (W.q3 (hg := gk rfl rfl c rfl) (.bool (decide (d > e))) rfl rfl (W.q5 (.bool (decide (d > e))) c rfl (W.pv (.bool (!(decide (d > e)))) (z26 (a := decide (d > e)) ov) (W.p1 (.bool (!(decide (d > e)))) (.nil ?_))))))
 obtain rfl := zAa A
 exact ⟨(!(decide (d > e))), _, rfl, O, (zAf _), rfl⟩
def z54 (K : Nat) (a : Branch) : Option Int := (Option.bind (((z7p K a.X 1 10000).bind fun h => (if h = true then ((z7p K a.Tap 500 1500).bind fun b => (if b = true then ((z7p K a.Shift (-1000) 1000).bind fun c => (if c = true then ((z7p K a.Limit 0 100000).bind fun d => (if d = true then ((z7p K a.Short a.Limit 100000).bind fun e => (if e = true then ((z7p K a.Hold 0 200000).bind fun f => some f) else some false)) else some false)) else some false)) else some false)) else some false))) (tu1 fun g => (if g = true then some 0 else some 4)))
theorem z9o (ac : List Value) (g : Branch) (ak : z0i.rep G ac g) (O : Ow G H (L)) (r : Int) (h : z54 K g = some r) :
    CR Tryd.prog 67 [.agg ac.toArray] G H (L) (fun v ad _ => v = .int .i64 r) := by
 unfold z54 at h
 refine CR.og (n := 33) (fn := Tryd.f67) (by kernel_rfl) rfl rfl fun R kr => (.seq (.region (W.ln (Lo.box (r := z0i) (x0 := g) (v := (.agg ac.toArray)) rfl rfl ak O) ?_)))
 rintro bi bj ⟨m, rfl, ae, aX⟩
 refine W.p1 (.int .i64 0) (.nil (.seq (.seq ?_)))
 obtain ⟨aL, aM, aN⟩ := z03 h
 refine AW.midT (fun al aO => ∃ (am : Bool) (ad : GM), am = aL /\ Ow ad aO (eVar m 59 z0i g :: L) /\ GM.le G ad /\ al 32 = .bool am) ?_ ?_
 rotate_left
 .rintro aP aY aQ ⟨an, aZ, rfl, y, z, af⟩
  have A := z0k aN
  refine .cond (b := an) rfl af (fun p => ?_) (fun p => ?_)
  .have ag := z01 p A
   refine .seq (.region (W.p1 (.int .i64 0) (.nil (.ret ?_))))
   have ah := y.drop 0
   obtain rfl := zAa ag
   exact z41 kr (v1 := (.int .i64 0)) (by rfl) rt ah z rfl
  have ai := z11 p A
  refine .skip (.seq (.region (W.p1 (.int .i64 4) (.nil (.ret ?_)))))
  have aj := y.drop 0
  obtain rfl := zAa ai
  exact z41 kr (v1 := (.int .i64 4)) (by rfl) rt aj z rfl
 refine .region (W.pv (padd (.pointer (some ⟨m, 0, none⟩)) 3) (z0a zj1 ov (ae.atVar (j := 0) rfl)) (W.l1 (.int .i64 g.X) ag3 (z0f rfl (At.int (At.proj (ae.atVar (j := 0) rfl) zal))) ?_))
 obtain ⟨ao, ap, T⟩ := z03 aM
 refine W.ln (Lo.cQ Tryd.f68 (mc rfl (mc rfl (mc rfl mn))) ae (fun B i => z4s K g.X 1 10000 i _ ap)) ?_
 rintro a0 a1 ⟨a2, q, k, aR, rfl⟩
 refine W.p2 (.bool ao) (W.splitAt (t := 6) (b := ao) rfl (fun C c => ?_) (fun C c => ?_))
 rotate_left
 .have aq := z11 C T
  refine W.q6 rfl c (W.q6 rfl c (W.q6 rfl c (W.q5 (.bool false) c rfl (W.p2 (.bool false) (W.q6 rfl rfl (W.q6 rfl rfl ?_))))))
  refine W.q6 rfl rfl (W.q5 (.bool false) rfl rfl (W.p2 (.bool false) (W.q6 rfl rfl (W.q6 rfl rfl (W.q6 rfl rfl (W.q5 (.bool false) rfl rfl ?_))))))
  refine W.p2 (.bool false) (W.q6 rfl rfl (W.q6 rfl rfl (W.q6 rfl rfl (W.q6 rfl rfl (W.q6 rfl rfl (W.q5 (.bool false) rfl rfl ?_))))))
  refine W.p2 (.bool false) (W.q6 rfl rfl (W.q6 rfl rfl (W.q6 rfl rfl (W.q5 (.bool false) rfl rfl (.nil ?_)))))
  obtain rfl := zAa aq
  exact ⟨false, _, rfl, q, k, rfl⟩
 have ar := z01 C T
 refine W.pure (v := (padd (.pointer (some ⟨m, 0, none⟩)) 4)) (gl rfl c) rfl (z0a zj2 ov (q.atVar (j := 0) rfl)) (W.load1 (v := (.int .i64 g.Tap)) (r := []) (gl rfl c) rfl ag3 (z0f rfl (At.int (At.proj (q.atVar (j := 0) rfl) z8k))) ?_)
 obtain ⟨E, au, U⟩ := z03 ar
 refine W.lo (gl rfl c) rfl (Lo.cQ Tryd.f68 (mc rfl (mc rfl (mc rfl mn))) q (fun B i => z4s K g.Tap 500 1500 i _ au)) ?_
 rintro a3 a4 ⟨a5, s, o, aS, rfl⟩
 refine W.q4 (.bool E) c rfl (W.p2 (.bool E) (W.splitAt (t := 11) (b := E) rfl (fun F d => ?_) (fun F d => ?_)))
 rotate_left
 .have av := z11 F U
  refine W.q6 rfl d (W.q6 rfl d (W.q6 rfl d (W.q5 (.bool false) d rfl (W.p2 (.bool false) (W.q6 rfl rfl (W.q6 rfl rfl ?_))))))
  refine W.q6 rfl rfl (W.q5 (.bool false) rfl rfl (W.p2 (.bool false) (W.q6 rfl rfl (W.q6 rfl rfl (W.q6 rfl rfl (W.q6 rfl rfl ?_))))))
  refine W.q6 rfl rfl (W.q5 (.bool false) rfl rfl (W.p2 (.bool false) (W.q6 rfl rfl (W.q6 rfl rfl (W.q6 rfl rfl (W.q5 (.bool false) rfl rfl ?_))))))
  refine .nil ?_
  obtain rfl := zAa av
  exact ⟨false, _, rfl, s, (zAe k o), rfl⟩
 have aw := z01 F U
 refine W.pure (v := (padd (.pointer (some ⟨m, 0, none⟩)) 5)) (gl rfl d) rfl (z0a zj3 ov (s.atVar (j := 0) rfl)) (W.load1 (v := (.int .i64 g.Shift)) (r := []) (gl rfl d) rfl ag3 (z0f rfl (At.int (At.proj (s.atVar (j := 0) rfl) z76))) ?_)
 obtain ⟨I, ax, V⟩ := z03 aw
 refine W.lo (gl rfl d) rfl (Lo.cQ Tryd.f68 (mc rfl (mc rfl (mc rfl mn))) s (fun B i => z4s K g.Shift (-1000) 1000 i _ ax)) ?_
 rintro a6 a7 ⟨a8, u, w, aT, rfl⟩
 refine W.q4 (.bool I) d rfl (W.p2 (.bool I) (W.splitAt (t := 16) (b := I) rfl (fun J e => ?_) (fun J e => ?_)))
 rotate_left
 .have ay := z11 J V
  refine W.q6 rfl e (W.q6 rfl e (W.q6 rfl e (W.q5 (.bool false) e rfl (W.p2 (.bool false) (W.q6 rfl rfl (W.q6 rfl rfl ?_))))))
  refine W.q6 rfl rfl (W.q6 rfl rfl (W.q6 rfl rfl (W.q5 (.bool false) rfl rfl (W.p2 (.bool false) (W.q6 rfl rfl (W.q6 rfl rfl ?_))))))
  refine W.q6 rfl rfl (W.q5 (.bool false) rfl rfl (.nil ?_))
  obtain rfl := zAa ay
  exact ⟨false, _, rfl, u, (zAe k (zAe o w)), rfl⟩
 have az := z01 J V
 refine W.pure (v := (padd (.pointer (some ⟨m, 0, none⟩)) 6)) (gl rfl e) rfl (z0a zg7 ov (u.atVar (j := 0) rfl)) (W.load1 (v := (.int .i64 g.Limit)) (r := []) (gl rfl e) rfl ag3 (z0f rfl (At.int (At.proj (u.atVar (j := 0) rfl) z5j))) ?_)
 obtain ⟨M, aA, Y⟩ := z03 az
 refine W.lo (gl rfl e) rfl (Lo.cQ Tryd.f68 (mc rfl (mc rfl (mc rfl mn))) u (fun B i => z4s K g.Limit 0 100000 i _ aA)) ?_
 rintro a9 ba ⟨bb, l, N, aU, rfl⟩
 refine W.q4 (.bool M) e rfl (W.p2 (.bool M) (W.splitAt (t := 21) (b := M) rfl (fun P a => ?_) (fun P a => ?_)))
 rotate_left
 .have aB := z11 P Y
  refine W.q6 rfl a (W.q6 rfl a (W.q6 rfl a (W.q6 rfl a (W.q6 rfl a (W.q5 (.bool false) a rfl (W.p2 (.bool false) ?_))))))
  refine W.q6 rfl rfl (W.q6 rfl rfl (W.q6 rfl rfl (W.q5 (.bool false) rfl rfl (.nil ?_))))
  obtain rfl := zAa aB
  exact ⟨false, _, rfl, l, (zAe k (zAe o (zAe w N))), rfl⟩
 have aC := z01 P Y
 refine W.pure (v := (padd (.pointer (some ⟨m, 0, none⟩)) 7)) (gl rfl a) rfl (z0a zj4 ov (l.atVar (j := 0) rfl)) (W.load1 (v := (.int .i64 g.Short)) (r := []) (gl rfl a) rfl ag3 (z0f rfl (At.int (At.proj (l.atVar (j := 0) rfl) z77))) (W.pure (v := (padd (.pointer (some ⟨m, 0, none⟩)) 6)) (gl rfl a) rfl (z0a zg7 ov (l.atVar (j := 0) rfl)) (W.load1 (v := (.int .i64 g.Limit)) (r := []) (gl rfl a) rfl ag3 (z0f rfl (At.int (At.proj (l.atVar (j := 0) rfl) z5j))) ?_)))
 obtain ⟨Q, aD, Z⟩ := z03 aC
 refine W.lo (gl rfl a) rfl (Lo.cQ Tryd.f68 (mc rfl (mc rfl (mc rfl mn))) l (fun B i => z4s K g.Short g.Limit 100000 i _ aD)) ?_
 rintro bc bd ⟨be, x, aa, aV, rfl⟩
 refine W.q4 (.bool Q) a rfl (W.p2 (.bool Q) (W.splitAt (t := 28) (b := Q) rfl (fun S f => ?_) (fun S f => ?_)))
 rotate_left
 .have aE := z11 S Z
  refine W.q6 rfl f (W.q6 rfl f (W.q6 rfl f (W.q5 (.bool false) f rfl (.nil ?_))))
  obtain rfl := zAa aE
  exact ⟨false, _, rfl, x, (zAe k (zAe o (zAe w (zAe N aa)))), rfl⟩
 have aF := z01 S Z
 refine W.pure (v := (padd (.pointer (some ⟨m, 0, none⟩)) 8)) (gl rfl f) rfl (z0a zj5 ov (x.atVar (j := 0) rfl)) (W.load1 (v := (.int .i64 g.Hold)) (r := []) (gl rfl f) rfl ag3 (z0f rfl (At.int (At.proj (x.atVar (j := 0) rfl) z7n))) ?_)
 obtain ⟨ab, aG, aH⟩ := z03 aF
 refine W.lo (gl rfl f) rfl (Lo.cQ Tryd.f68 (mc rfl (mc rfl (mc rfl mn))) x (fun B i => z4s K g.Hold 0 200000 i _ aG)) ?_
 rintro bf bg ⟨bh, aI, aJ, aW, rfl⟩
 have aK := zAe k (zAe o (zAe w (zAe N (zAe aa aJ))))
 refine W.q4 (.bool ab) f rfl (.nil ?_)
 obtain rfl := zAa aH
 exact ⟨ab, _, rfl, aI, aK, rfl⟩
structure Item where
  name : zAd
  nodes : List zAd
  apart : Bool
  bad : Bool
  deriving DecidableEq, Inhabited
def z2z : RT Item := rIso (rP rS (rP (rSl rS) (rP rB rB))) (fun s : Item => (s.name, s.nodes, s.apart, s.bad))
theorem zhs (G : GM) : z2z.rep G ([.string ByteArray.empty] ++ ([.slice none 0 0] ++ ([.bool false] ++ [.bool false]))) ((Item.mk ByteArray.empty ([] : List zAd) false false)) := ⟨_, _, rfl, zS G, ⟨_, _, rfl, zL G, ⟨_, _, rfl, zB G, (zB G)⟩⟩⟩
theorem zbf : Proj z2z 0 rS (fun x => x.name) := by
  have h := (Proj.iso (rP rS (rP (rSl rS) (rP rB rB))) (fun s : Item => (s.name, s.nodes, s.apart, s.bad))).comp (Proj.fst _ _)
  exact h
theorem zeu : Put z2z 0 rS (fun x y => { x with name := y }) := by
  have h := Put.comp (Proj.iso (rP rS (rP (rSl rS) (rP rB rB))) (fun s : Item => (s.name, s.nodes, s.apart, s.bad))) (Put.iso (rP rS (rP (rSl rS) (rP rB rB))) (fun s : Item => (s.name, s.nodes, s.apart, s.bad)) (fun _ q => ⟨q.1, q.2.1, q.2.2.1, q.2.2.2⟩) (fun _ _ => rfl)) (Put.fst _ _)
  exact h
theorem z8u : Proj z2z 1 (rSl rS) (fun x => x.nodes) := by
  have h := (Proj.iso (rP rS (rP (rSl rS) (rP rB rB))) (fun s : Item => (s.name, s.nodes, s.apart, s.bad))).comp ((Proj.snd _ _).comp (Proj.fst _ _))
  exact h
theorem zd7 : Put z2z 1 (rSl rS) (fun x y => { x with nodes := y }) := by
  have h := Put.comp (Proj.iso (rP rS (rP (rSl rS) (rP rB rB))) (fun s : Item => (s.name, s.nodes, s.apart, s.bad))) (Put.iso (rP rS (rP (rSl rS) (rP rB rB))) (fun s : Item => (s.name, s.nodes, s.apart, s.bad)) (fun _ q => ⟨q.1, q.2.1, q.2.2.1, q.2.2.2⟩) (fun _ _ => rfl)) (Put.comp (Proj.snd _ _) (Put.snd _ _) (Put.fst _ _))
  exact h
theorem zd8 : Proj z2z 2 rB (fun x => x.apart) := by
  have h := (Proj.iso (rP rS (rP (rSl rS) (rP rB rB))) (fun s : Item => (s.name, s.nodes, s.apart, s.bad))).comp ((Proj.snd _ _).comp ((Proj.snd _ _).comp (Proj.fst _ _)))
  exact h
theorem zd9 : Put z2z 2 rB (fun x y => { x with apart := y }) := by
  have h := Put.comp (Proj.iso (rP rS (rP (rSl rS) (rP rB rB))) (fun s : Item => (s.name, s.nodes, s.apart, s.bad))) (Put.iso (rP rS (rP (rSl rS) (rP rB rB))) (fun s : Item => (s.name, s.nodes, s.apart, s.bad)) (fun _ q => ⟨q.1, q.2.1, q.2.2.1, q.2.2.2⟩) (fun _ _ => rfl)) (Put.comp (Proj.snd _ _) (Put.snd _ _) (Put.comp (Proj.snd _ _) (Put.snd _ _) (Put.fst _ _)))
  exact h
theorem zgg : Proj z2z 3 rB (fun x => x.bad) := by
  have h := (Proj.iso (rP rS (rP (rSl rS) (rP rB rB))) (fun s : Item => (s.name, s.nodes, s.apart, s.bad))).comp ((Proj.snd _ _).comp ((Proj.snd _ _).comp ((Proj.snd _ _).comp (Proj.self _))))
  exact h
theorem zgh : Put z2z 3 rB (fun x y => { x with bad := y }) := by
  have h := Put.comp (Proj.iso (rP rS (rP (rSl rS) (rP rB rB))) (fun s : Item => (s.name, s.nodes, s.apart, s.bad))) (Put.iso (rP rS (rP (rSl rS) (rP rB rB))) (fun s : Item => (s.name, s.nodes, s.apart, s.bad)) (fun _ q => ⟨q.1, q.2.1, q.2.2.1, q.2.2.2⟩) (fun _ _ => rfl)) (Put.comp (Proj.snd _ _) (Put.snd _ _) (Put.comp (Proj.snd _ _) (Put.snd _ _) (Put.comp (Proj.snd _ _) (Put.snd _ _) (Put.self _))))
  exact h
theorem z2p {G : GM} (a : Value) {b : zAd} (c : Value) {e : List zAd} (f : Value) {h : Bool} (i : Value) {j : Bool} (k : rS.rep G a.cells.toList b) (l : (rSl rS).rep G c.cells.toList e) (n : rB.rep G f.cells.toList h) (o : rB.rep G i.cells.toList j) : ∃ cs : List Value, (∀ {s : List Value} {d : Tmp} {ty : TypeId} {pos : String} {af : Array Edge} {g : Option (Nat × Bool)} {ps : Array (Nat × Operand)}, zcq s ps.toList = some [(0, a), (1, c), (2, f), (3, i)] -> z32 Tryd.prog s ⟨some d, .build 90 ps, ty, pos, af, g⟩ = some (.agg cs.toArray)) /\ z2z.rep G cs (Item.mk b e h j) := by
  have p := (zeu G _ _ _ _ (zhs G) k).1
  have q := (zd7 G _ _ _ _ (p) l).1
  have r := (zd9 G _ _ _ _ (q) n).1
  have t := (zgh G _ _ _ _ (r) o).1
  refine ⟨_, fun {s d ty pos af g ps} hps => zbx pl90 ze90 zo90 hps ?_, t⟩
  refine (z4y (off := 0) (sz := 1) (cs := _) rfl (RT.len _ k) (Nat.le_trans (Nat.le_of_ble_eq_true (m := 4) rfl) (Nat.le_of_eq (RT.len _ (zhs G)).symm))).trans ?_
  refine (z4y (off := 1) (sz := 1) (cs := _) rfl (RT.len _ l) (Nat.le_trans (Nat.le_of_ble_eq_true (m := 4) rfl) (Nat.le_of_eq (RT.len _ (p)).symm))).trans ?_
  refine (z4y (off := 2) (sz := 1) (cs := _) rfl (RT.len _ n) (Nat.le_trans (Nat.le_of_ble_eq_true (m := 4) rfl) (Nat.le_of_eq (RT.len _ (q)).symm))).trans ?_
  refine (z4y (off := 3) (sz := 1) (cs := _) rfl (RT.len _ o) (Nat.le_trans (Nat.le_of_ble_eq_true (m := 4) rfl) (Nat.le_of_eq (RT.len _ (r)).symm))).trans ?_
  rfl
def z3f (K : Nat) (d : Network) : Nat -> List Item -> Int -> Option (List Item)
  | 0, _, _ => none
  | k + 1, b, c => (if (decide (c < (d.Switches.length : Int))) = true then ((idx d.Switches c).bind fun a => (if b.length + [(Item.mk a.Name [a.A, a.B] true false)].length <= 16777216 then z3f K d k (b ++ [(Item.mk a.Name [a.A, a.B] true false)]) (z0u .i64 (c + 1)) else none)) else some b)
def z3g (K : Nat) (e : Network) : Nat -> List Item -> Int -> Option (List Item)
  | 0, _, _ => none
  | k + 1, b, c => (if (decide (c < (e.Branches.length : Int))) = true then ((idx e.Branches c).bind fun a => ((z54 K a).bind fun d => (if b.length + [(Item.mk a.Name [a.From, a.To] true (d != 0))].length <= 16777216 then z3g K e k (b ++ [(Item.mk a.Name [a.From, a.To] true (d != 0))]) (z0u .i64 (c + 1)) else none))) else some b)
def z3h (K : Nat) (e : Network) : Nat -> List Item -> Int -> Option (List Item)
  | 0, _, _ => none
  | k + 1, b, c => (if (decide (c < (e.Gens.length : Int))) = true then (Option.bind (((idx e.Gens c).bind fun a => ((z7p K a.Least 0 100000).bind fun f => (if (!f) = true then (if b.length + [(Item.mk a.Name [a.Node] false true)].length <= 16777216 then some (b ++ [(Item.mk a.Name [a.Node] false true)]) else none) else ((z7p K a.Most a.Least 100000).bind fun g => (if (!g) = true then (if b.length + [(Item.mk a.Name [a.Node] false true)].length <= 16777216 then some (b ++ [(Item.mk a.Name [a.Node] false true)]) else none) else ((z7p K a.Ramp 0 100000).bind fun d => (if b.length + [(Item.mk a.Name [a.Node] false (!d))].length <= 16777216 then some (b ++ [(Item.mk a.Name [a.Node] false (!d))]) else none)))))))) (tu1 fun h => z3h K e k h (z0u .i64 (c + 1)))) else some b)
def z3i (K : Nat) (e : Network) : Nat -> List Item -> Int -> Option (List Item)
  | 0, _, _ => none
  | k + 1, b, c => (if (decide (c < (e.Loads.length : Int))) = true then ((idx e.Loads c).bind fun a => ((z7p K a.Demand 0 100000).bind fun d => (if b.length + [(Item.mk a.Name [a.Node] false (!d))].length <= 16777216 then z3i K e k (b ++ [(Item.mk a.Name [a.Node] false (!d))]) (z0u .i64 (c + 1)) else none))) else some b)
def z3j (K : Nat) (e : Network) : Nat -> List Item -> Int -> Option (List Item)
  | 0, _, _ => none
  | k + 1, b, c => (if (decide (c < (e.Stores.length : Int))) = true then (Option.bind (((idx e.Stores c).bind fun a => ((z7p K a.Charge 0 100000).bind fun f => (if (!f) = true then (if b.length + [(Item.mk a.Name [a.Node] false true)].length <= 16777216 then some (b ++ [(Item.mk a.Name [a.Node] false true)]) else none) else ((z7p K a.Discharge 0 100000).bind fun g => (if (!g) = true then (if b.length + [(Item.mk a.Name [a.Node] false true)].length <= 16777216 then some (b ++ [(Item.mk a.Name [a.Node] false true)]) else none) else ((z7p K a.Capacity 0 100000).bind fun d => (if b.length + [(Item.mk a.Name [a.Node] false (!d))].length <= 16777216 then some (b ++ [(Item.mk a.Name [a.Node] false (!d))]) else none)))))))) (tu1 fun h => z3j K e k h (z0u .i64 (c + 1)))) else some b)
def z83 (K : Nat) (a : Network) : Option (List Item) := (Option.bind (z3f K a K [] 0) (tu1 fun f => (Option.bind (z3g K a K f 0) (tu1 fun b => (Option.bind (z3h K a K b 0) (tu1 fun c => (Option.bind (z3i K a K c 0) (tu1 fun d => (Option.bind (z3j K a K d 0) (tu1 fun e => some e))))))))))
theorem zaq (dT : List Value) (i : Network) (g8 : z00.rep G dT i) (O : Ow G H (L)) (r : List Item) (h : z83 K i = some r) :
    CRF Tryd.prog 48 [.agg dT.toArray] G H (fun dU => (eSl dU 90 z2z r :: L)) (fun dU v g => dU = v) := by
 unfold z83 at h
 refine CRF.og (n := 145) (fn := Tryd.f48) (by kernel_rfl) rfl rfl fun R kr => (.seq (.region (W.ln (Lo.box (r := z00) (x0 := i) (v := (.agg dT.toArray)) rfl rfl g8 O) ?_)))
 rintro jI jJ ⟨C, rfl, dV, ju⟩
 refine W.p1 (.slice none 0 0) (.nil (.seq (.region (W.p1 (.slice none 0 0) (.nil (.seq ?_))))))
 refine .seq (.region (W.pv (padd (.pointer (some ⟨C, 0, none⟩)) 1) (z0a z86 ov (dV.atVar (j := 0) rfl)) ?_))
 obtain ⟨g9, ig, dW⟩ := At.sl (At.proj (dV.atVar (j := 0) rfl) z1h)
 refine W.l1 g9 ag23 (z0f rfl ig) (W.pv (.int .i64 (i.Switches.length : Int)) (z1j ov (z17 dW) (z02 el23)) (W.p2 (.int .i64 0) (.nil ?_)))
 obtain ⟨ha, hb, hc⟩ := z03 h
 refine AW.midT (fun e x => ∃ (k : List Item) (g : GM), k = ha /\ Ow g x (eVar C 29 z00 i :: eSl (e 3) 90 z2z k :: L) /\ GM.le G g) ?_ ?_
 .refine .block ?_
  have hd := dV.nilSl 90 z2z
  refine AW.loop (α := Nat) (fun z e x => ∃ (k : List Item) (N : Int) (g : GM), z3f K i z k N = some ha /\ Ow g x (eSl (e 3) 90 z2z k :: eVar C 29 z00 i :: L) /\ GM.le G g /\ e 17 = .int .i64 N) (fun z => z) K ⟨[], 0, _, hb, hd, (zAf _), rfl⟩ ?_
  rintro b1
  rintro b2 jv b3 ⟨dK, az, jw, bM, b4, aN, b5⟩
  rcases b1 with _ | b1
  .exact z0e bM
  rw [z3f] at bM
  refine .seq (.region (W.q3 (.bool (decide (az < (i.Switches.length : Int)))) b5 (ft (b3 16 rfl) rfl) (.nil (.seq (.cond (b := decide (az < (i.Switches.length : Int))) rfl rfl (fun b6 => ?_) (fun b6 => ?_))))))
  rotate_left
  .have he := z11 b6 bM
   refine .exit ?_
   have hf := (b4.front (j := 0) rfl).front (j := 1) rfl
   obtain rfl := zAa he
   exact ⟨dK, _, rfl, hf, aN⟩
  have hg := z01 b6 bM
  refine .skip (.seq (.block (.seq (.region ?_))))
  obtain ⟨y, hh, hi⟩ := z03 hg
  have b7 := z1v hh
  refine W.pv (z5q g9 (az.toNat * 5)) (z6h el23 sz52 (ou (ft (b3 15 rfl) rfl)) (ou b5) (z17 (RT.mono _ aN dW)) b7.1 b7.2.1) ?_
  obtain ⟨dL, hj, dM⟩ := (At.le (At.le (z47 dW b7.2.2) aN aN) (zAf _) b4.fro)
  refine W.loadA (cs := dL) rfl rfl ag52 sz52 (z0f rfl hj) (RT.len _ dM) (W.ln (Lo.alloc (r := z0x) (x0 := (Switch.mk ByteArray.empty ByteArray.empty ByteArray.empty false false)) ze52 (by kernel_rfl) zd5 b4) ?_)
  rintro jx jy ⟨b8, rfl, hk, ih⟩
  refine W.ln (Lo.storeVar (j := 0) (s := z0x) (y0 := y) (v := (.agg dL.toArray)) (o := 0) rfl ((Put.at (Put.self _) _ _)) rfl sz52 rfl (by omega) rfl dM hk) ?_
  rintro jz jA ⟨ak, ii⟩
  refine .nil (.region (W.p2 (b2 3) (W.pv (padd (.pointer (some ⟨b8, 0, none⟩)) 0) (z0a zhi ov (ak.atVar (j := 0) rfl)) (W.l1 (.string y.Name) ag9 (z0f rfl (At.str (At.proj (ak.atVar (j := 0) rfl) z6k))) (W.pv (padd (.pointer (some ⟨b8, 0, none⟩)) 1) (z0a zhj ov (ak.atVar (j := 0) rfl)) (W.l1 (.string y.A) ag9 (z0f rfl (At.str (At.proj (ak.atVar (j := 0) rfl) z99))) ?_))))))
  refine W.pv (padd (.pointer (some ⟨b8, 0, none⟩)) 2) (z0a zhk ov (ak.atVar (j := 0) rfl)) (W.l1 (.string y.B) ag9 (z0f rfl (At.str (At.proj (ak.atVar (j := 0) rfl) z9a))) (W.ln (Lo.buildSlice (r := rS) (vs := [(.string y.A), (.string y.B)]) (xs := [y.A, y.B]) el22 ze9 sz9 (by kernel_rfl) rfl (qc rfl (qc rfl qn)) rfl (.cons rfl (.cons rfl .nil)) ak) ?_))
  rintro hl jB ⟨hm, ij⟩
  obtain ⟨hn, ho, hp, hq⟩ := hm.frzSl (j := 0) rfl
  obtain ⟨dN, hr, hs⟩ := z2p (G := hn) ((.string y.Name)) (hl) ((.bool true)) ((.bool false)) (rfl) ((z75 hq)) (rfl) (rfl)
  refine W.pv (.agg dN.toArray) (hr (z4t rfl (qc' rfl (qc' rfl (qc' rfl (qc' rfl qn')))))) (W.ln (Lo.buildSlice (r := z2z) (vs := [(.agg dN.toArray)]) (xs := [(Item.mk y.Name [y.A, y.B] true false)]) el87 ze90 sz90 (by kernel_rfl) rfl (qc rfl qn) rfl (.cons hs .nil) ho) ?_)
  rintro jC jD ⟨dO, ik⟩
  obtain ⟨il, ht, hu⟩ := z6i (j := 0) rfl dO
  obtain ⟨hv, hw⟩ := z38 hi
  refine W.ln (Lo.append (j := 2) (v := (b2 3)) rfl rfl el87 ni87 ze90 sz90 by90 (by decide) (by decide) rfl ht hu hv dO) ?_
  rintro hx jE ⟨hy, im⟩
  refine W.p1 hx (.nil (.region (W.r3 (.int .i64 (z0u .i64 (az + 1))) b5 (W.p2 (.int .i64 (z0u .i64 (az + 1))) (.nil ?_)))))
  have hz := (hy.drop 0).drop 0
  exact ⟨b1, zAg _, ⟨(dK ++ [(Item.mk y.Name [y.A, y.B] true false)]), z0u .i64 (az + 1), _, hw, hz, (zAe aN hp), rfl⟩⟩
 rintro io jF aB ⟨hA, dP, rfl, b9, hB⟩
 have hC := z0k hc
 refine .seq (.seq (.region (W.pv (padd (.pointer (some ⟨C, 0, none⟩)) 2) (z0a zb1 (ou (ft (aB 1 rfl) rfl)) (b9.atVar (j := 0) rfl)) ?_)))
 obtain ⟨dQ, hD, ca⟩ := At.sl (At.proj (b9.atVar (j := 0) rfl) z25)
 refine W.l1 dQ ag24 (z0f rfl hD) (W.pv (.int .i64 (i.Branches.length : Int)) (z1j ov (z17 ca) (z02 el24)) (W.p2 (.int .i64 0) (.nil ?_)))
 obtain ⟨dR, hE, hF⟩ := z03 hC
 refine AW.midT (fun e x => ∃ (k : List Item) (g : GM), k = dR /\ Ow g x (eVar C 29 z00 i :: eSl (e 3) 90 z2z k :: L) /\ GM.le dP g) ?_ ?_
 .refine .block (AW.loop (α := Nat) (fun z e x => ∃ (k : List Item) (N : Int) (g : GM), z3g K i z k N = some dR /\ Ow g x (eVar C 29 z00 i :: eSl (e 3) 90 z2z k :: L) /\ GM.le dP g /\ e 36 = .int .i64 N) (fun z => z) K ⟨hA, 0, _, hE, b9, (zAf _), rfl⟩ ?_)
  rintro cb
  rintro cc jG cd ⟨dS, aA, jH, bN, ce, aO, cf⟩
  rcases cb with _ | cb
  .exact z0e bN
  rw [z3g] at bN
  refine .seq (.region (W.q3 (.bool (decide (aA < (i.Branches.length : Int)))) cf (ft (cd 35 rfl) rfl) (.nil (.seq (.cond (b := decide (aA < (i.Branches.length : Int))) rfl rfl (fun cg => ?_) (fun cg => ?_))))))
  rotate_left
  .have dX := z11 cg bN
   refine .exit ?_
   obtain rfl := zAa dX
   exact ⟨dS, _, rfl, ce, aO⟩
  have hG := z01 cg bN
  refine .skip (.seq (.block (.seq (.region ?_))))
  obtain ⟨w, dY, dZ⟩ := z03 hG
  have aP := z1v dY
  refine W.pv (z5q dQ (aA.toNat * 9)) (z6h el24 sz59 (ou (ft (cd 34 rfl) rfl)) (ou cf) (z17 (RT.mono _ aO ca)) aP.1 aP.2.1) ?_
  obtain ⟨ch, d0, ci⟩ := (At.le (At.le (z47 ca aP.2.2) aO aO) (zAf _) ce.fro)
  refine W.loadA (cs := ch) rfl rfl ag59 sz59 (z0f rfl d0) (RT.len _ ci) (W.ln (Lo.alloc (r := z0i) (x0 := (Branch.mk ByteArray.empty ByteArray.empty ByteArray.empty 0 0 0 0 0 0)) ze59 (by kernel_rfl) zd6 ce) ?_)
  rintro ip iq ⟨aQ, rfl, d1, hH⟩
  refine W.ln (Lo.storeVar (j := 0) (s := z0i) (y0 := w) (v := (.agg ch.toArray)) (o := 0) rfl ((Put.at (Put.self _) _ _)) rfl sz59 rfl (by omega) rfl ci d1) ?_
  rintro ir it ⟨d2, hI⟩
  refine .nil (.draw2 (M := [0, 0, 2, 0, 8, 0, 32, 120, 0, 256, 768, 2046, 4094, 8191, 16383]) mixed (by kernel_rfl) (by kernel_rfl) fun iu iv d3 d4 => ?_)
  have I := d2.ext d3
  refine D2.p2 (cc 3) (D2.pv (padd (.pointer (some ⟨aQ, 0, none⟩)) 0) (z0a zhl ov (I.atVar (j := 0) rfl)) (D2.l1 (.string w.Name) ag9 (z0f rfl (At.str (At.proj (I.atVar (j := 0) rfl) z6l))) z0d (D2.pv (padd (.pointer (some ⟨aQ, 0, none⟩)) 1) (z0a zhm ov (I.atVar (j := 0) rfl)) (D2.l1 (.string w.From) ag9 (z0f rfl (At.str (At.proj (I.atVar (j := 0) rfl) z6m))) z0d (D2.pv (padd (.pointer (some ⟨aQ, 0, none⟩)) 2) (z0a zhn ov (I.atVar (j := 0) rfl)) (D2.l1 (.string w.To) ag9 (z0f rfl (At.str (At.proj (I.atVar (j := 0) rfl) z82))) z0d ?_))))))
  refine D2.alloc (m := 15) rfl rfl (Al.buildSlice (r := rS) (vs := [(.string w.From), (.string w.To)]) (xs := [w.From, w.To]) el22 ze9 sz9 (by kernel_rfl) rfl (qc rfl (qc rfl qn)) rfl (.cons rfl (.cons rfl .nil))) (Free.up (by decide) d4) (by decide) I ?_
  rintro d5 iw ⟨cj, hJ, d6⟩
  obtain ⟨ck, d7, cl⟩ := (cj.atVar (j := 1) rfl)
  refine D2.loadA' (cs := ck) rfl rfl ag59 sz59 (z0f rfl d7) (RT.len _ cl) z0d ?_
  obtain ⟨aC, d8, d9⟩ := z03 dZ
  refine D2.loN rfl rfl (Lo.cQ Tryd.f67 (mc rfl mn) cj (fun aR J => z9o K ck w cl J _ d8)) ?_ z0d ?_ ?_
  .rintro cm cn ⟨co, aS, aT, F, rfl⟩; exact (faI (faR1 (.inr (smI (j := 1) F)) (faR1 (.inr (smI (j := 1) F)) (faR1 (.inr (smI (j := 1) F)) z0d))))
  .rintro cm cn ⟨co, aS, aT, F, rfl⟩; exact (faR1 (.inr (smI (j := 0) F)) z0d)
  rintro cm cn ⟨co, aS, aT, F, rfl⟩ dz
  have ea := Free.nx d6 dz
  refine D2.p3 (.bool (aC != 0)) ?_
  obtain ⟨eb, ec, ed, ee⟩ := aS.frzSl (j := 0) rfl
  obtain ⟨cp, ef, eg⟩ := z2p (G := eb) ((.string w.Name)) ((.slice (some ⟨d5, 0, some 0⟩) 2 2)) ((.bool true)) ((.bool (aC != 0))) (rfl) ((z75 ee)) (rfl) (rfl)
  refine D2.pv (.agg cp.toArray) (ef (z4t rfl (qc' rfl (qc' rfl (qc' rfl (qc' rfl qn')))))) (D2.alloc (m := 15) rfl rfl (Al.buildSlice (r := z2z) (vs := [(.agg cp.toArray)]) (xs := [(Item.mk w.Name [w.From, w.To] true (aC != 0))]) el87 ze90 sz90 (by kernel_rfl) rfl (qc rfl qn) rfl (.cons eg .nil)) (Free.up (by decide) ea) (by decide) ec ?_)
  rintro ix iy ⟨cq, hK, iz⟩
  obtain ⟨hL, eh, ei⟩ := z6i (j := 0) rfl cq
  obtain ⟨ej, ek⟩ := z38 d9
  refine D2.lo rfl rfl (Lo.append (j := 3) (v := (cc 3)) rfl rfl el87 ni87 ze90 sz90 by90 (by decide) (by decide) rfl eh ei ej cq) ?_ (faK z0d) ?_ ?_
  .rintro aU cr ⟨aV, bO⟩; exact (faI (faI (faI (faI z0d))))
  .rintro aU cr ⟨aV, bO⟩; exact (faI (faI z0d))
  rintro aU cr ⟨aV, bO⟩
  refine D2.p1 aU (.nil (.region (W.r3 (.int .i64 (z0u .i64 (aA + 1))) cf (W.p2 (.int .i64 (z0u .i64 (aA + 1))) (.nil ?_)))))
  have el := (aV.drop 0).drop 0
  exact ⟨cb, zAg _, ⟨(dS ++ [(Item.mk w.Name [w.From, w.To] true (aC != 0))]), z0u .i64 (aA + 1), _, ek, el, (zAe aO (zAe aT ed)), rfl⟩⟩
 rintro hM iA aD ⟨em, ct, rfl, aW, en⟩
 have eo := z0k hF
 refine .seq (.seq (.region (W.pv (padd (.pointer (some ⟨C, 0, none⟩)) 3) (z0a zb2 (ou (ft (aD 1 rfl) (ft (aB 1 rfl) rfl))) (aW.atVar (j := 0) rfl)) ?_)))
 obtain ⟨cu, ep, aX⟩ := At.sl (At.proj (aW.atVar (j := 0) rfl) z3a)
 refine W.l1 cu ag25 (z0f rfl ep) (W.pv (.int .i64 (i.Gens.length : Int)) (z1j ov (z17 aX) (z02 el25)) (W.p2 (.int .i64 0) (.nil ?_)))
 obtain ⟨cv, eq, er⟩ := z03 eo
 refine AW.midT (fun e x => ∃ (k : List Item) (g : GM), k = cv /\ Ow g x (eVar C 29 z00 i :: eSl (e 3) 90 z2z k :: L) /\ GM.le ct g) ?_ ?_
 .refine .block (AW.loop (α := Nat) (fun z e x => ∃ (k : List Item) (N : Int) (g : GM), z3h K i z k N = some cv /\ Ow g x (eVar C 29 z00 i :: eSl (e 3) 90 z2z k :: L) /\ GM.le ct g /\ e 58 = .int .i64 N) (fun z => z) K ⟨em, 0, _, eq, aW, (zAf _), rfl⟩ ?_)
  rintro aY
  rintro ah iB bP ⟨aE, Y, es, aF, aZ, al, a0⟩
  rcases aY with _ | aY
  .exact z0e aF
  rw [z3h] at aF
  refine .seq (.region (W.q3 (.bool (decide (Y < (i.Gens.length : Int)))) a0 (ft (bP 57 rfl) rfl) (.nil (.seq (.cond (b := decide (Y < (i.Gens.length : Int))) rfl rfl (fun a1 => ?_) (fun a1 => ?_))))))
  rotate_left
  .have et := z11 a1 aF
   refine .exit ?_
   obtain rfl := zAa et
   exact ⟨aE, _, rfl, aZ, al⟩
  have eu := z01 a1 aF
  refine .skip (.seq ?_)
  obtain ⟨ev, ew, ex⟩ := z03 eu
  refine AW.midT (fun e x => ∃ (k : List Item) (g : GM), k = ev /\ Ow g x (eVar C 29 z00 i :: eSl (e 3) 90 z2z k :: L) /\ GM.le es g) ?_ ?_
  rotate_left
  .rintro hN iC dA ⟨ey, iD, rfl, ez, eA⟩
   have eB := z0k ex
   refine .region (W.q3 (.int .i64 (z0u .i64 (Y + 1))) (ft (dA 58 rfl) a0) rfl (W.p2 (.int .i64 (z0u .i64 (Y + 1))) (.nil ?_)))
   exact ⟨aY, zAg _, ⟨ey, z0u .i64 (Y + 1), _, eB, ez, (zAe al eA), rfl⟩⟩
  refine .block (.seq (.region ?_))
  obtain ⟨c, eC, eD⟩ := z03 ew
  have a2 := z1v eC
  refine W.pv (z5q cu (Y.toNat * 5)) (z6h el25 sz67 (ou (ft (bP 56 rfl) rfl)) (ou a0) (z17 (RT.mono _ al aX)) a2.1 a2.2.1) ?_
  obtain ⟨cw, eE, cx⟩ := (At.le (At.le (z47 aX a2.2.2) al al) (zAf _) aZ.fro)
  refine W.loadA (cs := cw) rfl rfl ag67 sz67 (z0f rfl eE) (RT.len _ cx) (W.ln (Lo.alloc (r := z6b) (x0 := (Gen.mk ByteArray.empty ByteArray.empty 0 0 0)) ze67 (by kernel_rfl) zlq aZ) ?_)
  rintro iE iF ⟨Z, rfl, eF, hO⟩
  refine W.ln (Lo.storeVar (j := 0) (s := z6b) (y0 := c) (v := (.agg cw.toArray)) (o := 0) rfl ((Put.at (Put.self _) _ _)) rfl sz67 rfl (by omega) rfl cx eF) ?_
  rintro iG iH ⟨eG, hP⟩
  refine .nil (.draw2 (M := [0, 0, 2, 0, 8, 24, 0, 64, 192, 448, 960, 1984, 4032, 1984, 10176, 32704, 65472, 131008, 262080, 524224, 1048512, 2097088, 4194240, 8388544, 16777214, 33554430, 67108863, 134217727]) mixed (by kernel_rfl) (by kernel_rfl) fun iI iJ eH eI => ?_)
  have am := eG.ext eH
  refine D2.p2 (ah 3) (D2.pv (padd (.pointer (some ⟨Z, 0, none⟩)) 0) (z0a zho ov (am.atVar (j := 0) rfl)) (D2.l1 (.string c.Name) ag9 (z0f rfl (At.str (At.proj (am.atVar (j := 0) rfl) z9b))) z0d (D2.pv (padd (.pointer (some ⟨Z, 0, none⟩)) 1) (z0a zj6 ov (am.atVar (j := 0) rfl)) (D2.l1 (.string c.Node) ag9 (z0f rfl (At.str (At.proj (am.atVar (j := 0) rfl) zam))) z0d (D2.alloc (m := 28) rfl rfl (Al.buildSlice (r := rS) (vs := [(.string c.Node)]) (xs := [c.Node]) el22 ze9 sz9 (by kernel_rfl) rfl (qc rfl qn) rfl (.cons rfl .nil)) (Free.up (by decide) eI) (by decide) am ?_)))))
  rintro a3 iK ⟨a4, hQ, eJ⟩
  refine D2.pv (padd (.pointer (some ⟨Z, 0, none⟩)) 2) (z0a zg8 ov (a4.atVar (j := 1) rfl)) (D2.l1 (.int .i64 c.Least) ag3 (z0f rfl (At.int (At.proj (a4.atVar (j := 1) rfl) z6x))) z0d ?_)
  obtain ⟨aG, eK, cy⟩ := z03 eD
  refine D2.loN rfl rfl (Lo.cQ Tryd.f68 (mc rfl (mc rfl (mc rfl mn))) a4 (fun aR J => z4s K c.Least 0 100000 J _ eK)) ?_ z0d ?_ ?_
  .rintro cz cA ⟨cB, E, an, P, rfl⟩; exact (faI (faR1 (.inr (smI (j := 1) P)) (faR1 (.inr (smI (j := 1) P)) z0d)))
  .rintro cz cA ⟨cB, E, an, P, rfl⟩; exact (faR1 (.inr (smI (j := 0) P)) z0d)
  rintro cz cA ⟨cB, E, an, P, rfl⟩ dB
  have cC := Free.nx eJ dB
  refine D2.pv (.bool (!aG)) (z26 (a := aG) ov) (D2.p2 (.bool (!aG)) (D2.splitAt (t := 72) (b := (!aG)) rfl (fun a5 f => ?_) (fun a5 f => ?_)))
  .have eL := z01 a5 cy
   refine D2.skip (gl rfl f) rfl (D2.skip (gl rfl f) rfl (D2.skip (gl rfl f) rfl (D2.skip (gl rfl f) rfl (D2.skip (gl rfl f) rfl (D2.skip (gl rfl f) rfl (D2.pv (.bool true) (z8e (ou f) ov) ?_))))))
   refine D2.p2 (.bool true) (D2.skip (gl rfl rfl) rfl (D2.skip (gl rfl rfl) rfl (D2.skip (gl rfl rfl) rfl (D2.skip (gl rfl rfl) rfl (D2.pv (.bool true) (z8e ov ov) ?_)))))
   obtain ⟨eM, eN, eO, eP⟩ := E.frzSl (j := 0) rfl
   obtain ⟨cD, eQ, eR⟩ := z2p (G := eM) ((.string c.Name)) ((.slice (some ⟨a3, 0, some 0⟩) 1 1)) ((.bool false)) ((.bool true)) (rfl) ((z75 eP)) (rfl) (rfl)
   refine D2.pv (.agg cD.toArray) (eQ (z4t rfl (qc' rfl (qc' rfl (qc' rfl (qc' rfl qn')))))) (D2.alloc (m := 28) rfl rfl (Al.buildSlice (r := z2z) (vs := [(.agg cD.toArray)]) (xs := [(Item.mk c.Name [c.Node] false true)]) el87 ze90 sz90 (by kernel_rfl) rfl (qc rfl qn) rfl (.cons eR .nil)) (Free.up (by decide) cC) (by decide) eN ?_)
   rintro iL iM ⟨cE, hR, iN⟩
   obtain ⟨hS, eS, eT⟩ := z6i (j := 0) rfl cE
   obtain ⟨eU, eV⟩ := z38 eL
   refine D2.lo rfl rfl (Lo.append (j := 3) (v := (ah 3)) rfl rfl el87 ni87 ze90 sz90 by90 (by decide) (by decide) rfl eS eT eU cE) ?_ (faK z0d) ?_ ?_
   .rintro a6 cF ⟨a7, bQ⟩; exact (faI (faI (faI z0d)))
   .rintro a6 cF ⟨a7, bQ⟩; exact (faI (faI z0d))
   rintro a6 cF ⟨a7, bQ⟩
   refine D2.p1 a6 (.nil ?_)
   have eW := (a7.drop 0).drop 0
   obtain rfl := zAa eV
   exact ⟨(aE ++ [(Item.mk c.Name [c.Node] false true)]), _, rfl, eW, (zAe an eO)⟩
  have eX := z11 a5 cy
  refine D2.pure (v := (padd (.pointer (some ⟨Z, 0, none⟩)) 3)) (gl rfl f) rfl (z0a zj7 ov (E.atVar (j := 1) rfl)) (D2.load1' (v := (.int .i64 c.Most)) (r := []) (gl rfl f) rfl ag3 (z0f rfl (At.int (At.proj (E.atVar (j := 1) rfl) zan))) (z6v (by decide) z0d) (D2.pure (v := (padd (.pointer (some ⟨Z, 0, none⟩)) 2)) (gl rfl f) rfl (z0a zg8 ov (E.atVar (j := 1) rfl)) (D2.load1' (v := (.int .i64 c.Least)) (r := []) (gl rfl f) rfl ag3 (z0f rfl (At.int (At.proj (E.atVar (j := 1) rfl) z6x))) (z6v (by decide) z0d) ?_)))
  obtain ⟨ao, eY, cG⟩ := z03 eX
  refine D2.loN (gl rfl f) rfl (Lo.cQ Tryd.f68 (mc rfl (mc rfl (mc rfl mn))) E (fun aR J => z4s K c.Most c.Least 100000 J _ eY)) ?_ (faK z0d) ?_ ?_
  .rintro cH cI ⟨cJ, aa, aH, Q, rfl⟩; exact (faI (faI (faI (faR1 (.inr (smI (j := 1) Q)) (faR1 (.inr (smI (j := 1) Q)) z0d)))))
  .rintro cH cI ⟨cJ, aa, aH, Q, rfl⟩; exact (faR1 (.inr (smI (j := 0) Q)) z0d)
  rintro cH cI ⟨cJ, aa, aH, Q, rfl⟩ dC
  have cK := Free.nx cC dC
  refine D2.pure (v := (.bool (!ao))) (gl rfl f) rfl (z26 (a := ao) ov) (D2.pv (.bool (!ao)) (z95 (ou f) ov) (D2.p2 (.bool (!ao)) (D2.splitAt (t := 80) (b := (!ao)) rfl (fun a8 l => ?_) (fun a8 l => ?_))))
  .have eZ := z01 a8 cG
   refine D2.skip (gl rfl l) rfl (D2.skip (gl rfl l) rfl (D2.skip (gl rfl l) rfl (D2.skip (gl rfl l) rfl (D2.pv (.bool true) (z8e (ou l) ov) ?_))))
   obtain ⟨e0, e1, e2, e3⟩ := aa.frzSl (j := 0) rfl
   obtain ⟨cL, e4, e5⟩ := z2p (G := e0) ((.string c.Name)) ((.slice (some ⟨a3, 0, some 0⟩) 1 1)) ((.bool false)) ((.bool true)) (rfl) ((z75 e3)) (rfl) (rfl)
   refine D2.pv (.agg cL.toArray) (e4 (z4t rfl (qc' rfl (qc' rfl (qc' rfl (qc' rfl qn')))))) (D2.alloc (m := 28) rfl rfl (Al.buildSlice (r := z2z) (vs := [(.agg cL.toArray)]) (xs := [(Item.mk c.Name [c.Node] false true)]) el87 ze90 sz90 (by kernel_rfl) rfl (qc rfl qn) rfl (.cons e5 .nil)) (Free.up (by decide) cK) (by decide) e1 ?_)
   rintro iO iP ⟨cM, hT, iQ⟩
   obtain ⟨hU, e6, e7⟩ := z6i (j := 0) rfl cM
   obtain ⟨e8, e9⟩ := z38 eZ
   refine D2.lo rfl rfl (Lo.append (j := 3) (v := (ah 3)) rfl rfl el87 ni87 ze90 sz90 by90 (by decide) (by decide) rfl e6 e7 e8 cM) ?_ (faK (faK z0d)) ?_ ?_
   .rintro a9 cN ⟨ba, bR⟩; exact (faI (faI (faI (faI (faI z0d)))))
   .rintro a9 cN ⟨ba, bR⟩; exact (faI (faI z0d))
   rintro a9 cN ⟨ba, bR⟩
   refine D2.p1 a9 (.nil ?_)
   have fa := (ba.drop 0).drop 0
   obtain rfl := zAa e9
   exact ⟨(aE ++ [(Item.mk c.Name [c.Node] false true)]), _, rfl, fa, (zAe an (zAe aH e2))⟩
  have fb := z11 a8 cG
  refine D2.pure (v := (padd (.pointer (some ⟨Z, 0, none⟩)) 4)) (gl rfl l) rfl (z0a zj8 ov (aa.atVar (j := 1) rfl)) (D2.load1' (v := (.int .i64 c.Ramp)) (r := []) (gl rfl l) rfl ag3 (z0f rfl (At.int (At.proj (aa.atVar (j := 1) rfl) zao))) (z6v (by decide) (z6v (by decide) z0d)) ?_)
  obtain ⟨ab, fc, fd⟩ := z03 fb
  refine D2.loN (gl rfl l) rfl (Lo.cQ Tryd.f68 (mc rfl (mc rfl (mc rfl mn))) aa (fun aR J => z4s K c.Ramp 0 100000 J _ fc)) ?_ (faK (faK z0d)) ?_ ?_
  .rintro cO cP ⟨cR, bb, bc, S, rfl⟩; exact (faI (faI (faI (faI (faR1 (.inr (smI (j := 1) S)) (faR1 (.inr (smI (j := 1) S)) z0d))))))
  .rintro cO cP ⟨cR, bb, bc, S, rfl⟩; exact (faR1 (.inr (smI (j := 0) S)) z0d)
  rintro cO cP ⟨cR, bb, bc, S, rfl⟩ dD
  have fe := Free.nx cK dD
  refine D2.pure (v := (.bool (!ab))) (gl rfl l) rfl (z26 (a := ab) ov) (D2.pv (.bool (!ab)) (z95 (ou l) ov) ?_)
  obtain ⟨ff, fg, fh, fi⟩ := bb.frzSl (j := 0) rfl
  obtain ⟨cS, fj, fk⟩ := z2p (G := ff) ((.string c.Name)) ((.slice (some ⟨a3, 0, some 0⟩) 1 1)) ((.bool false)) ((.bool (!ab))) (rfl) ((z75 fi)) (rfl) (rfl)
  refine D2.pv (.agg cS.toArray) (fj (z4t rfl (qc' rfl (qc' rfl (qc' rfl (qc' rfl qn')))))) (D2.alloc (m := 28) rfl rfl (Al.buildSlice (r := z2z) (vs := [(.agg cS.toArray)]) (xs := [(Item.mk c.Name [c.Node] false (!ab))]) el87 ze90 sz90 (by kernel_rfl) rfl (qc rfl qn) rfl (.cons fk .nil)) (Free.up (by decide) fe) (by decide) fg ?_)
  rintro iR iS ⟨cT, hV, iT⟩
  obtain ⟨hW, fl, fm⟩ := z6i (j := 0) rfl cT
  obtain ⟨fo, fp⟩ := z38 fd
  refine D2.lo rfl rfl (Lo.append (j := 3) (v := (ah 3)) rfl rfl el87 ni87 ze90 sz90 by90 (by decide) (by decide) rfl fl fm fo cT) ?_ (faK (faK (faK z0d))) ?_ ?_
  .rintro bd cU ⟨be, bS⟩; exact (faI (faI (faI (faI (faI (faI z0d))))))
  .rintro bd cU ⟨be, bS⟩; exact (faI (faI z0d))
  rintro bd cU ⟨be, bS⟩
  refine D2.p1 bd (.nil ?_)
  have fq := (be.drop 0).drop 0
  obtain rfl := zAa fp
  exact ⟨(aE ++ [(Item.mk c.Name [c.Node] false (!ab))]), _, rfl, fq, (zAe an (zAe aH (zAe bc fh)))⟩
 rintro hX iU bT ⟨fr, cV, rfl, bf, fs⟩
 have fu := z0k er
 refine .seq (.seq (.region (W.pv (padd (.pointer (some ⟨C, 0, none⟩)) 4) (z0a zb3 (ou (ft (bT 1 rfl) (ft (aD 1 rfl) (ft (aB 1 rfl) rfl)))) (bf.atVar (j := 0) rfl)) ?_)))
 obtain ⟨cW, fv, bg⟩ := At.sl (At.proj (bf.atVar (j := 0) rfl) z35)
 refine W.l1 cW ag26 (z0f rfl fv) (W.pv (.int .i64 (i.Loads.length : Int)) (z1j ov (z17 bg) (z02 el26)) (W.p2 (.int .i64 0) (.nil ?_)))
 obtain ⟨cX, fw, fx⟩ := z03 fu
 refine AW.midT (fun e x => ∃ (k : List Item) (g : GM), k = cX /\ Ow g x (eVar C 29 z00 i :: eSl (e 3) 90 z2z k :: L) /\ GM.le cV g) ?_ ?_
 .refine .block (AW.loop (α := Nat) (fun z e x => ∃ (k : List Item) (N : Int) (g : GM), z3i K i z k N = some cX /\ Ow g x (eVar C 29 z00 i :: eSl (e 3) 90 z2z k :: L) /\ GM.le cV g /\ e 93 = .int .i64 N) (fun z => z) K ⟨fr, 0, _, fw, bf, (zAf _), rfl⟩ ?_)
  rintro bh
  rintro bU iV bV ⟨cY, ac, iW, aI, bi, ap, bj⟩
  rcases bh with _ | bh
  .exact z0e aI
  rw [z3i] at aI
  refine .seq (.region (W.q3 (.bool (decide (ac < (i.Loads.length : Int)))) bj (ft (bV 92 rfl) rfl) (.nil (.seq (.cond (b := decide (ac < (i.Loads.length : Int))) rfl rfl (fun bk => ?_) (fun bk => ?_))))))
  rotate_left
  .have fy := z11 bk aI
   refine .exit ?_
   obtain rfl := zAa fy
   exact ⟨cY, _, rfl, bi, ap⟩
  have fz := z01 bk aI
  refine .skip (.seq (.block (.seq (.region ?_))))
  obtain ⟨u, fA, fB⟩ := z03 fz
  have bl := z1v fA
  refine W.pv (z5q cW (ac.toNat * 3)) (z6h el26 sz71 (ou (ft (bV 91 rfl) rfl)) (ou bj) (z17 (RT.mono _ ap bg)) bl.1 bl.2.1) ?_
  obtain ⟨cZ, fC, c0⟩ := (At.le (At.le (z47 bg bl.2.2) ap ap) (zAf _) bi.fro)
  refine W.loadA (cs := cZ) rfl rfl ag71 sz71 (z0f rfl fC) (RT.len _ c0) (W.ln (Lo.alloc (r := z1w) (x0 := (Load_.mk ByteArray.empty ByteArray.empty 0)) ze71 (by kernel_rfl) zgd bi) ?_)
  rintro iX iY ⟨bm, rfl, fD, hY⟩
  refine W.ln (Lo.storeVar (j := 0) (s := z1w) (y0 := u) (v := (.agg cZ.toArray)) (o := 0) rfl ((Put.at (Put.self _) _ _)) rfl sz71 rfl (by omega) rfl c0 fD) ?_
  rintro iZ i0 ⟨fE, hZ⟩
  refine .nil (.draw2 (M := [0, 0, 2, 0, 8, 24, 0, 64, 192, 448, 1022, 2046, 4095, 8191]) mixed (by kernel_rfl) (by kernel_rfl) fun i1 i2 fF fG => ?_)
  have aq := fE.ext fF
  refine D2.p2 (bU 3) (D2.pv (padd (.pointer (some ⟨bm, 0, none⟩)) 0) (z0a zhp ov (aq.atVar (j := 0) rfl)) (D2.l1 (.string u.Name) ag9 (z0f rfl (At.str (At.proj (aq.atVar (j := 0) rfl) z78))) z0d (D2.pv (padd (.pointer (some ⟨bm, 0, none⟩)) 1) (z0a zj9 ov (aq.atVar (j := 0) rfl)) (D2.l1 (.string u.Node) ag9 (z0f rfl (At.str (At.proj (aq.atVar (j := 0) rfl) z8l))) z0d (D2.alloc (m := 14) rfl rfl (Al.buildSlice (r := rS) (vs := [(.string u.Node)]) (xs := [u.Node]) el22 ze9 sz9 (by kernel_rfl) rfl (qc rfl qn) rfl (.cons rfl .nil)) (Free.up (by decide) fG) (by decide) aq ?_)))))
  rintro fH i3 ⟨bn, h0, fI⟩
  refine D2.pv (padd (.pointer (some ⟨bm, 0, none⟩)) 2) (z0a zja ov (bn.atVar (j := 1) rfl)) (D2.l1 (.int .i64 u.Demand) ag3 (z0f rfl (At.int (At.proj (bn.atVar (j := 1) rfl) z79))) z0d ?_)
  obtain ⟨ar, fJ, fK⟩ := z03 fB
  refine D2.loN rfl rfl (Lo.cQ Tryd.f68 (mc rfl (mc rfl (mc rfl mn))) bn (fun aR J => z4s K u.Demand 0 100000 J _ fJ)) ?_ z0d ?_ ?_
  .rintro c1 c2 ⟨c3, bo, bp, T, rfl⟩; exact (faI (faR1 (.inr (smI (j := 1) T)) (faR1 (.inr (smI (j := 1) T)) z0d)))
  .rintro c1 c2 ⟨c3, bo, bp, T, rfl⟩; exact (faR1 (.inr (smI (j := 0) T)) z0d)
  rintro c1 c2 ⟨c3, bo, bp, T, rfl⟩ dE
  have fL := Free.nx fI dE
  refine D2.pv (.bool (!ar)) (z26 (a := ar) ov) ?_
  obtain ⟨fM, fN, fO, fP⟩ := bo.frzSl (j := 0) rfl
  obtain ⟨c4, fQ, fR⟩ := z2p (G := fM) ((.string u.Name)) ((.slice (some ⟨fH, 0, some 0⟩) 1 1)) ((.bool false)) ((.bool (!ar))) (rfl) ((z75 fP)) (rfl) (rfl)
  refine D2.pv (.agg c4.toArray) (fQ (z4t rfl (qc' rfl (qc' rfl (qc' rfl (qc' rfl qn')))))) (D2.alloc (m := 14) rfl rfl (Al.buildSlice (r := z2z) (vs := [(.agg c4.toArray)]) (xs := [(Item.mk u.Name [u.Node] false (!ar))]) el87 ze90 sz90 (by kernel_rfl) rfl (qc rfl qn) rfl (.cons fR .nil)) (Free.up (by decide) fL) (by decide) fN ?_)
  rintro i4 i5 ⟨c5, h1, i6⟩
  obtain ⟨h2, fT, fU⟩ := z6i (j := 0) rfl c5
  obtain ⟨fV, fW⟩ := z38 fK
  refine D2.lo rfl rfl (Lo.append (j := 3) (v := (bU 3)) rfl rfl el87 ni87 ze90 sz90 by90 (by decide) (by decide) rfl fT fU fV c5) ?_ (faK z0d) ?_ ?_
  .rintro bq c6 ⟨br, bW⟩; exact (faI (faI (faI z0d)))
  .rintro bq c6 ⟨br, bW⟩; exact (faI (faI z0d))
  rintro bq c6 ⟨br, bW⟩
  refine D2.p1 bq (.nil (.region (W.r3 (.int .i64 (z0u .i64 (ac + 1))) bj (W.p2 (.int .i64 (z0u .i64 (ac + 1))) (.nil ?_)))))
  have fX := (br.drop 0).drop 0
  exact ⟨bh, zAg _, ⟨(cY ++ [(Item.mk u.Name [u.Node] false (!ar))]), z0u .i64 (ac + 1), _, fW, fX, (zAe ap (zAe bp fO)), rfl⟩⟩
 rintro h3 i7 dF ⟨fY, c7, rfl, bs, fZ⟩
 have f0 := z0k fx
 refine .seq (.seq (.region (W.pv (padd (.pointer (some ⟨C, 0, none⟩)) 5) (z0a zb4 (ou (ft (dF 1 rfl) (ft (bT 1 rfl) (ft (aD 1 rfl) (ft (aB 1 rfl) rfl))))) (bs.atVar (j := 0) rfl)) ?_)))
 obtain ⟨c8, f1, bt⟩ := At.sl (At.proj (bs.atVar (j := 0) rfl) z2q)
 refine W.l1 c8 ag27 (z0f rfl f1) (W.pv (.int .i64 (i.Stores.length : Int)) (z1j ov (z17 bt) (z02 el27)) (W.p2 (.int .i64 0) (.nil ?_)))
 obtain ⟨c9, f2, f3⟩ := z03 f0
 refine AW.midT (fun e x => ∃ (k : List Item) (g : GM), k = c9 /\ Ow g x (eVar C 29 z00 i :: eSl (e 3) 90 z2z k :: L) /\ GM.le c7 g) ?_ ?_
 rotate_left
 .rintro ai i8 h4 ⟨i9, ja, rfl, f4, f5⟩
  have f6 := z0k f3
  refine .seq (.region (W.p2 (ai 3) (W.p1 (ai 3) (.nil (.ret ?_)))))
  have f7 := f4.drop 0
  obtain rfl := zAa f6
  exact z4a kr (ai 3) (v1 := (ai 3)) (by rfl) rt f7 (zAe hB (zAe en (zAe fs (zAe fZ f5)))) rfl
 refine .block (AW.loop (α := Nat) (fun z e x => ∃ (k : List Item) (N : Int) (g : GM), z3j K i z k N = some c9 /\ Ow g x (eVar C 29 z00 i :: eSl (e 3) 90 z2z k :: L) /\ GM.le c7 g /\ e 114 = .int .i64 N) (fun z => z) K ⟨fY, 0, _, f2, bs, (zAf _), rfl⟩ ?_)
 rintro bu
 rintro aj jb bX ⟨aJ, ad, f8, aK, bv, au, bw⟩
 rcases bu with _ | bu
 .exact z0e aK
 rw [z3j] at aK
 refine .seq (.region (W.q3 (.bool (decide (ad < (i.Stores.length : Int)))) bw (ft (bX 113 rfl) rfl) (.nil (.seq (.cond (b := decide (ad < (i.Stores.length : Int))) rfl rfl (fun bx => ?_) (fun bx => ?_))))))
 rotate_left
 .have f9 := z11 bx aK
  refine .exit ?_
  obtain rfl := zAa f9
  exact ⟨aJ, _, rfl, bv, au⟩
 have ga := z01 bx aK
 refine .skip (.seq ?_)
 obtain ⟨gb, gc, gd⟩ := z03 ga
 refine AW.midT (fun e x => ∃ (k : List Item) (g : GM), k = gb /\ Ow g x (eVar C 29 z00 i :: eSl (e 3) 90 z2z k :: L) /\ GM.le f8 g) ?_ ?_
 rotate_left
 .rintro h5 jc dG ⟨ge, jd, rfl, gf, gg⟩
  have gh := z0k gd
  refine .region (W.q3 (.int .i64 (z0u .i64 (ad + 1))) (ft (dG 114 rfl) bw) rfl (W.p2 (.int .i64 (z0u .i64 (ad + 1))) (.nil ?_)))
  exact ⟨bu, zAg _, ⟨ge, z0u .i64 (ad + 1), _, gh, gf, (zAe au gg), rfl⟩⟩
 refine .block (.seq (.region ?_))
 obtain ⟨d, gi, gj⟩ := z03 gc
 have bz := z1v gi
 refine W.pv (z5q c8 (ad.toNat * 5)) (z6h el27 sz75 (ou (ft (bX 112 rfl) rfl)) (ou bw) (z17 (RT.mono _ au bt)) bz.1 bz.2.1) ?_
 obtain ⟨da, gm, db⟩ := (At.le (At.le (z47 bt bz.2.2) au au) (zAf _) bv.fro)
 refine W.loadA (cs := da) rfl rfl ag75 sz75 (z0f rfl gm) (RT.len _ db) (W.ln (Lo.alloc (r := z1o) (x0 := (Store.mk ByteArray.empty ByteArray.empty 0 0 0)) ze75 (by kernel_rfl) zge bv) ?_)
 rintro je jf ⟨av, rfl, gn, h6⟩
 refine W.ln (Lo.storeVar (j := 0) (s := z1o) (y0 := d) (v := (.agg da.toArray)) (o := 0) rfl ((Put.at (Put.self _) _ _)) rfl sz75 rfl (by omega) rfl db gn) ?_
 rintro jg jh ⟨go, h7⟩
 refine .nil (.draw2 (M := [0, 0, 2, 0, 8, 24, 0, 64, 192, 448, 960, 1984, 4032, 8128, 16320, 32704, 65472, 131008, 262080, 524224, 1048512, 2097088, 4194302, 8388606, 16777215, 33554431]) mixed (by kernel_rfl) (by kernel_rfl) fun ji jj gp gq => ?_)
 have aw := go.ext gp
 refine D2.p2 (aj 3) (D2.pv (padd (.pointer (some ⟨av, 0, none⟩)) 0) (z0a zhq ov (aw.atVar (j := 0) rfl)) (D2.l1 (.string d.Name) ag9 (z0f rfl (At.str (At.proj (aw.atVar (j := 0) rfl) z7a))) z0d (D2.pv (padd (.pointer (some ⟨av, 0, none⟩)) 1) (z0a zjb ov (aw.atVar (j := 0) rfl)) (D2.l1 (.string d.Node) ag9 (z0f rfl (At.str (At.proj (aw.atVar (j := 0) rfl) z8m))) z0d (D2.alloc (m := 26) rfl rfl (Al.buildSlice (r := rS) (vs := [(.string d.Node)]) (xs := [d.Node]) el22 ze9 sz9 (by kernel_rfl) rfl (qc rfl qn) rfl (.cons rfl .nil)) (Free.up (by decide) gq) (by decide) aw ?_)))))
 rintro bA jk ⟨bB, h8, gr⟩
 refine D2.pv (padd (.pointer (some ⟨av, 0, none⟩)) 2) (z0a zjc ov (bB.atVar (j := 1) rfl)) (D2.l1 (.int .i64 d.Charge) ag3 (z0f rfl (At.int (At.proj (bB.atVar (j := 1) rfl) z7b))) z0d ?_)
 obtain ⟨aL, gs, dc⟩ := z03 gj
 refine D2.loN rfl rfl (Lo.cQ Tryd.f68 (mc rfl (mc rfl (mc rfl mn))) bB (fun aR J => z4s K d.Charge 0 100000 J _ gs)) ?_ z0d ?_ ?_
 .rintro dd de ⟨df, ae, ax, U, rfl⟩; exact (faI (faR1 (.inr (smI (j := 1) U)) (faR1 (.inr (smI (j := 1) U)) z0d)))
 .rintro dd de ⟨df, ae, ax, U, rfl⟩; exact (faR1 (.inr (smI (j := 0) U)) z0d)
 rintro dd de ⟨df, ae, ax, U, rfl⟩ dH
 have dg := Free.nx gr dH
 refine D2.pv (.bool (!aL)) (z26 (a := aL) ov) (D2.p2 (.bool (!aL)) (D2.splitAt (t := 128) (b := (!aL)) rfl (fun bC p => ?_) (fun bC p => ?_)))
 .have gt := z01 bC dc
  refine D2.skip (gl rfl p) rfl (D2.skip (gl rfl p) rfl (D2.skip (gl rfl p) rfl (D2.skip (gl rfl p) rfl (D2.pv (.bool true) (z8e (ou p) ov) (D2.p2 (.bool true) (D2.skip (gl rfl rfl) rfl ?_))))))
  refine D2.skip (gl rfl rfl) rfl (D2.skip (gl rfl rfl) rfl (D2.skip (gl rfl rfl) rfl (D2.pv (.bool true) (z8e ov ov) ?_)))
  obtain ⟨gu, gv, gw, gx⟩ := ae.frzSl (j := 0) rfl
  obtain ⟨dh, gy, gz⟩ := z2p (G := gu) ((.string d.Name)) ((.slice (some ⟨bA, 0, some 0⟩) 1 1)) ((.bool false)) ((.bool true)) (rfl) ((z75 gx)) (rfl) (rfl)
  refine D2.pv (.agg dh.toArray) (gy (z4t rfl (qc' rfl (qc' rfl (qc' rfl (qc' rfl qn')))))) (D2.alloc (m := 26) rfl rfl (Al.buildSlice (r := z2z) (vs := [(.agg dh.toArray)]) (xs := [(Item.mk d.Name [d.Node] false true)]) el87 ze90 sz90 (by kernel_rfl) rfl (qc rfl qn) rfl (.cons gz .nil)) (Free.up (by decide) dg) (by decide) gv ?_)
  rintro jl jm ⟨di, h9, jn⟩
  obtain ⟨ia, gA, gB⟩ := z6i (j := 0) rfl di
  obtain ⟨gC, gD⟩ := z38 gt
  refine D2.lo rfl rfl (Lo.append (j := 3) (v := (aj 3)) rfl rfl el87 ni87 ze90 sz90 by90 (by decide) (by decide) rfl gA gB gC di) ?_ (faK z0d) ?_ ?_
  .rintro bD dj ⟨bE, bY⟩; exact (faI (faI (faI z0d)))
  .rintro bD dj ⟨bE, bY⟩; exact (faI (faI z0d))
  rintro bD dj ⟨bE, bY⟩
  refine D2.p1 bD (.nil ?_)
  have gE := (bE.drop 0).drop 0
  obtain rfl := zAa gD
  exact ⟨(aJ ++ [(Item.mk d.Name [d.Node] false true)]), _, rfl, gE, (zAe ax gw)⟩
 have gF := z11 bC dc
 refine D2.pure (v := (padd (.pointer (some ⟨av, 0, none⟩)) 3)) (gl rfl p) rfl (z0a zjd ov (ae.atVar (j := 1) rfl)) (D2.load1' (v := (.int .i64 d.Discharge)) (r := []) (gl rfl p) rfl ag3 (z0f rfl (At.int (At.proj (ae.atVar (j := 1) rfl) z5z))) (z6v (by decide) z0d) ?_)
 obtain ⟨ay, gG, dk⟩ := z03 gF
 refine D2.loN (gl rfl p) rfl (Lo.cQ Tryd.f68 (mc rfl (mc rfl (mc rfl mn))) ae (fun aR J => z4s K d.Discharge 0 100000 J _ gG)) ?_ (faK z0d) ?_ ?_
 .rintro dl dm ⟨dn, af, aM, V, rfl⟩; exact (faI (faI (faR1 (.inr (smI (j := 1) V)) (faR1 (.inr (smI (j := 1) V)) z0d))))
 .rintro dl dm ⟨dn, af, aM, V, rfl⟩; exact (faR1 (.inr (smI (j := 0) V)) z0d)
 rintro dl dm ⟨dn, af, aM, V, rfl⟩ dI
 have dp := Free.nx dg dI
 refine D2.pure (v := (.bool (!ay))) (gl rfl p) rfl (z26 (a := ay) ov) (D2.pv (.bool (!ay)) (z95 (ou p) ov) (D2.p2 (.bool (!ay)) (D2.splitAt (t := 134) (b := (!ay)) rfl (fun bF q => ?_) (fun bF q => ?_))))
 .have gH := z01 bF dk
  refine D2.skip (gl rfl q) rfl (D2.skip (gl rfl q) rfl (D2.skip (gl rfl q) rfl (D2.skip (gl rfl q) rfl (D2.pv (.bool true) (z8e (ou q) ov) ?_))))
  obtain ⟨gI, gJ, gK, gL⟩ := af.frzSl (j := 0) rfl
  obtain ⟨dq, gM, gN⟩ := z2p (G := gI) ((.string d.Name)) ((.slice (some ⟨bA, 0, some 0⟩) 1 1)) ((.bool false)) ((.bool true)) (rfl) ((z75 gL)) (rfl) (rfl)
  refine D2.pv (.agg dq.toArray) (gM (z4t rfl (qc' rfl (qc' rfl (qc' rfl (qc' rfl qn')))))) (D2.alloc (m := 26) rfl rfl (Al.buildSlice (r := z2z) (vs := [(.agg dq.toArray)]) (xs := [(Item.mk d.Name [d.Node] false true)]) el87 ze90 sz90 (by kernel_rfl) rfl (qc rfl qn) rfl (.cons gN .nil)) (Free.up (by decide) dp) (by decide) gJ ?_)
  rintro jo jp ⟨dr, ib, jq⟩
  obtain ⟨ic, gO, gP⟩ := z6i (j := 0) rfl dr
  obtain ⟨gQ, gR⟩ := z38 gH
  refine D2.lo rfl rfl (Lo.append (j := 3) (v := (aj 3)) rfl rfl el87 ni87 ze90 sz90 by90 (by decide) (by decide) rfl gO gP gQ dr) ?_ (faK (faK z0d)) ?_ ?_
  .rintro bG ds ⟨bH, bZ⟩; exact (faI (faI (faI (faI z0d))))
  .rintro bG ds ⟨bH, bZ⟩; exact (faI (faI z0d))
  rintro bG ds ⟨bH, bZ⟩
  refine D2.p1 bG (.nil ?_)
  have gS := (bH.drop 0).drop 0
  obtain rfl := zAa gR
  exact ⟨(aJ ++ [(Item.mk d.Name [d.Node] false true)]), _, rfl, gS, (zAe ax (zAe aM gK))⟩
 have gT := z11 bF dk
 refine D2.pure (v := (padd (.pointer (some ⟨av, 0, none⟩)) 4)) (gl rfl q) rfl (z0a zje ov (af.atVar (j := 1) rfl)) (D2.load1' (v := (.int .i64 d.Capacity)) (r := []) (gl rfl q) rfl ag3 (z0f rfl (At.int (At.proj (af.atVar (j := 1) rfl) z6c))) (z6v (by decide) (z6v (by decide) z0d)) ?_)
 obtain ⟨ag, gU, gV⟩ := z03 gT
 refine D2.loN (gl rfl q) rfl (Lo.cQ Tryd.f68 (mc rfl (mc rfl (mc rfl mn))) af (fun aR J => z4s K d.Capacity 0 100000 J _ gU)) ?_ (faK (faK z0d)) ?_ ?_
 .rintro dt du ⟨dv, bI, bJ, X, rfl⟩; exact (faI (faI (faI (faR1 (.inr (smI (j := 1) X)) (faR1 (.inr (smI (j := 1) X)) z0d)))))
 .rintro dt du ⟨dv, bI, bJ, X, rfl⟩; exact (faR1 (.inr (smI (j := 0) X)) z0d)
 rintro dt du ⟨dv, bI, bJ, X, rfl⟩ dJ
 have gW := Free.nx dp dJ
 refine D2.pure (v := (.bool (!ag))) (gl rfl q) rfl (z26 (a := ag) ov) (D2.pv (.bool (!ag)) (z95 (ou q) ov) ?_)
 obtain ⟨gX, gY, gZ, g0⟩ := bI.frzSl (j := 0) rfl
 obtain ⟨dw, g1, g2⟩ := z2p (G := gX) ((.string d.Name)) ((.slice (some ⟨bA, 0, some 0⟩) 1 1)) ((.bool false)) ((.bool (!ag))) (rfl) ((z75 g0)) (rfl) (rfl)
 refine D2.pv (.agg dw.toArray) (g1 (z4t rfl (qc' rfl (qc' rfl (qc' rfl (qc' rfl qn')))))) (D2.alloc (m := 26) rfl rfl (Al.buildSlice (r := z2z) (vs := [(.agg dw.toArray)]) (xs := [(Item.mk d.Name [d.Node] false (!ag))]) el87 ze90 sz90 (by kernel_rfl) rfl (qc rfl qn) rfl (.cons g2 .nil)) (Free.up (by decide) gW) (by decide) gY ?_)
 rintro jr js ⟨dx, id, jt⟩
 obtain ⟨ie, g3, g4⟩ := z6i (j := 0) rfl dx
 obtain ⟨g5, g6⟩ := z38 gV
 refine D2.lo rfl rfl (Lo.append (j := 3) (v := (aj 3)) rfl rfl el87 ni87 ze90 sz90 by90 (by decide) (by decide) rfl g3 g4 g5 dx) ?_ (faK (faK (faK z0d))) ?_ ?_
 .rintro bK dy ⟨bL, b0⟩; exact (faI (faI (faI (faI (faI z0d)))))
 .rintro bK dy ⟨bL, b0⟩; exact (faI (faI z0d))
 rintro bK dy ⟨bL, b0⟩
 refine D2.p1 bK (.nil ?_)
 have g7 := (bL.drop 0).drop 0
 obtain rfl := zAa g6
 exact ⟨(aJ ++ [(Item.mk d.Name [d.Node] false (!ag))]), _, rfl, g7, (zAe ax (zAe aM (zAe bJ gZ)))⟩
def z2c (K : Nat) (d : Network) : Nat -> List zAd -> Int -> Option (Int ⊕ (List zAd))
  | 0, _, _ => none
  | k + 1, c, a => (if (decide (a < (d.Nodes.length : Int))) = true then ((idx d.Nodes a).bind fun e => ((z4r K e c).bind fun b => (if (b.1 != 0) = true then some (.inl b.1) else z2c K d k b.2 (z0u .i64 (a + 1))))) else some (.inr c))
def z20 (K : Nat) (e : Network) (a : Item) : Nat -> Int -> Option (Int ⊕ Unit)
  | 0, _ => none
  | k + 1, b => (if (decide (b < (a.nodes.length : Int))) = true then ((idx a.nodes b).bind fun c => ((zbe K e.Nodes c).bind fun d => (if (!d) = true then some (.inl 6) else z20 K e a k (z0u .i64 (b + 1))))) else some (.inr ()))
def z2d (K : Nat) (b : List Item) (j : Network) : Nat -> List zAd -> Int -> Option (Int ⊕ (List zAd))
  | 0, _, _ => none
  | k + 1, e, c => (if (decide (c < (b.length : Int))) = true then ((idx b c).bind fun a => ((z4r K a.name e).bind fun d => (if (d.1 != 0) = true then some (.inl d.1) else (z66 (z20 K j a K 0) (tu1 fun f => some (.inl f)) (tu0 (Option.bind ((if a.apart = true then ((idx a.nodes 0).bind fun g => ((idx a.nodes 1).bind fun h => some (sEq g h))) else some false)) (tu1 fun i => (if i = true then some (.inl 3) else (if a.bad = true then some (.inl 4) else z2d K b j k d.2 (z0u .i64 (c + 1))))))))))) else some (.inr e))
def z6d (K : Nat) (a : Network) : Option Int := (Option.bind ((if (decide ((a.Nodes.length : Int) > 24)) = true then some true else (if (decide ((a.Switches.length : Int) > 32)) = true then some true else (if (decide ((a.Branches.length : Int) > 24)) = true then some true else (if (decide ((a.Gens.length : Int) > 10)) = true then some true else (if (decide ((a.Loads.length : Int) > 12)) = true then some true else some (decide ((a.Stores.length : Int) > 4)))))))) (tu1 fun f => (if f = true then some 2 else (z66 (z2c K a K [] 0) (tu1 fun b => some b) (tu1 fun c => ((z83 K a).bind fun d => (z66 (z2d K d a K c 0) (tu1 fun e => some e) (tu1 fun g => some 0))))))))
theorem zb5 (bN : List Value) (d : Network) (cV : z00.rep G bN d) (O : Ow G H (L)) (r : Int) (h : z6d K d = some r) :
    CR Tryd.prog 11 [.agg bN.toArray] G H (L) (fun v f _ => v = .int .i64 r) := by
 unfold z6d at h
 refine CR.og (n := 105) (fn := Tryd.f11) (by kernel_rfl) rfl rfl fun R kr => (.seq (.region (W.ln (Lo.box (r := z00) (x0 := d) (v := (.agg bN.toArray)) rfl rfl cV O) ?_)))
 rintro es et ⟨C, rfl, B, el⟩
 refine W.p1 (.int .i64 0) (.nil (.seq (.seq ?_)))
 obtain ⟨dL, cW, dM⟩ := z03 h
 refine AW.midT (fun A E => ∃ (u : Bool) (f : GM), u = dL /\ Ow f E (eVar C 29 z00 d :: L) /\ GM.le G f /\ A 46 = .bool u) ?_ ?_
 .refine .region (W.pv (padd (.pointer (some ⟨C, 0, none⟩)) 0) (z0a zaj ov (B.atVar (j := 0) rfl)) ?_)
  obtain ⟨dN, cX, cY⟩ := At.sl (At.proj (B.atVar (j := 0) rfl) z1y)
  refine W.l1 dN ag22 (z0f rfl cX) (W.pv (.int .i64 (d.Nodes.length : Int)) (z1j ov (z17 cY) (z02 el22)) (W.p3 (.bool (decide ((d.Nodes.length : Int) > 24))) (W.p2 (.bool (decide ((d.Nodes.length : Int) > 24))) (W.splitAt (t := 17) (b := decide ((d.Nodes.length : Int) > 24)) rfl (fun aQ g => ?_) (fun aQ g => ?_)))))
  .have cZ := z01 aQ cW
   refine W.q6 rfl g (W.q6 rfl g (W.q6 rfl g (W.q6 rfl g (W.q4 (.bool true) g rfl (W.p2 (.bool true) (W.q6 rfl rfl ?_))))))
   refine W.q6 rfl rfl (W.q6 rfl rfl (W.q6 rfl rfl (W.q4 (.bool true) rfl rfl (W.p2 (.bool true) (W.q6 rfl rfl (W.q6 rfl rfl ?_))))))
   refine W.q6 rfl rfl (W.q6 rfl rfl (W.q4 (.bool true) rfl rfl (W.p2 (.bool true) (W.q6 rfl rfl (W.q6 rfl rfl (W.q6 rfl rfl ?_))))))
   refine W.q6 rfl rfl (W.q4 (.bool true) rfl rfl (W.p2 (.bool true) (W.q6 rfl rfl (W.q6 rfl rfl (W.q6 rfl rfl (W.q6 rfl rfl ?_))))))
   refine W.q4 (.bool true) rfl rfl (.nil ?_)
   obtain rfl := zAa cZ
   exact ⟨true, _, rfl, B, (zAf _), rfl⟩
  have bw := z11 aQ cW
  refine W.pure (v := (padd (.pointer (some ⟨C, 0, none⟩)) 1)) (gl rfl g) rfl (z0a z86 ov (B.atVar (j := 0) rfl)) ?_
  obtain ⟨c0, c1, c2⟩ := At.sl (At.proj (B.atVar (j := 0) rfl) z1h)
  refine W.load1 (v := c0) (r := []) (gl rfl g) rfl ag23 (z0f rfl c1) (W.pure (v := (.int .i64 (d.Switches.length : Int))) (gl rfl g) rfl (z1j ov (z17 c2) (z02 el23)) (W.q3 (hg := gk rfl rfl g rfl) (.bool (decide ((d.Switches.length : Int) > 32))) rfl rfl (W.q5 (.bool (decide ((d.Switches.length : Int) > 32))) g rfl (W.p2 (.bool (decide ((d.Switches.length : Int) > 32))) (W.splitAt (t := 23) (b := decide ((d.Switches.length : Int) > 32)) rfl (fun aR i => ?_) (fun aR i => ?_))))))
  .have c3 := z01 aR bw
   refine W.q6 rfl i (W.q6 rfl i (W.q6 rfl i (W.q6 rfl i (W.q4 (.bool true) i rfl (W.p2 (.bool true) (W.q6 rfl rfl ?_))))))
   refine W.q6 rfl rfl (W.q6 rfl rfl (W.q6 rfl rfl (W.q4 (.bool true) rfl rfl (W.p2 (.bool true) (W.q6 rfl rfl (W.q6 rfl rfl ?_))))))
   refine W.q6 rfl rfl (W.q6 rfl rfl (W.q4 (.bool true) rfl rfl (W.p2 (.bool true) (W.q6 rfl rfl (W.q6 rfl rfl (W.q6 rfl rfl ?_))))))
   refine W.q6 rfl rfl (W.q4 (.bool true) rfl rfl (.nil ?_))
   obtain rfl := zAa c3
   exact ⟨true, _, rfl, B, (zAf _), rfl⟩
  have bx := z11 aR bw
  refine W.pure (v := (padd (.pointer (some ⟨C, 0, none⟩)) 2)) (gl rfl i) rfl (z0a zb1 ov (B.atVar (j := 0) rfl)) ?_
  obtain ⟨c4, c5, c6⟩ := At.sl (At.proj (B.atVar (j := 0) rfl) z25)
  refine W.load1 (v := c4) (r := []) (gl rfl i) rfl ag24 (z0f rfl c5) (W.pure (v := (.int .i64 (d.Branches.length : Int))) (gl rfl i) rfl (z1j ov (z17 c6) (z02 el24)) (W.q3 (hg := gk rfl rfl i rfl) (.bool (decide ((d.Branches.length : Int) > 24))) rfl rfl (W.q5 (.bool (decide ((d.Branches.length : Int) > 24))) i rfl (W.p2 (.bool (decide ((d.Branches.length : Int) > 24))) (W.splitAt (t := 29) (b := decide ((d.Branches.length : Int) > 24)) rfl (fun aS k => ?_) (fun aS k => ?_))))))
  .have c7 := z01 aS bx
   refine W.q6 rfl k (W.q6 rfl k (W.q6 rfl k (W.q6 rfl k (W.q4 (.bool true) k rfl (W.p2 (.bool true) (W.q6 rfl rfl ?_))))))
   refine W.q6 rfl rfl (W.q6 rfl rfl (W.q6 rfl rfl (W.q4 (.bool true) rfl rfl (W.p2 (.bool true) (W.q6 rfl rfl (W.q6 rfl rfl ?_))))))
   refine W.q6 rfl rfl (W.q6 rfl rfl (W.q4 (.bool true) rfl rfl (.nil ?_)))
   obtain rfl := zAa c7
   exact ⟨true, _, rfl, B, (zAf _), rfl⟩
  have bz := z11 aS bx
  refine W.pure (v := (padd (.pointer (some ⟨C, 0, none⟩)) 3)) (gl rfl k) rfl (z0a zb2 ov (B.atVar (j := 0) rfl)) ?_
  obtain ⟨c8, c9, da⟩ := At.sl (At.proj (B.atVar (j := 0) rfl) z3a)
  refine W.load1 (v := c8) (r := []) (gl rfl k) rfl ag25 (z0f rfl c9) (W.pure (v := (.int .i64 (d.Gens.length : Int))) (gl rfl k) rfl (z1j ov (z17 da) (z02 el25)) (W.q3 (hg := gk rfl rfl k rfl) (.bool (decide ((d.Gens.length : Int) > 10))) rfl rfl (W.q5 (.bool (decide ((d.Gens.length : Int) > 10))) k rfl (W.p2 (.bool (decide ((d.Gens.length : Int) > 10))) (W.splitAt (t := 35) (b := decide ((d.Gens.length : Int) > 10)) rfl (fun aT l => ?_) (fun aT l => ?_))))))
  .have db := z01 aT bz
   refine W.q6 rfl l (W.q6 rfl l (W.q6 rfl l (W.q6 rfl l (W.q4 (.bool true) l rfl (W.p2 (.bool true) (W.q6 rfl rfl ?_))))))
   refine W.q6 rfl rfl (W.q6 rfl rfl (W.q6 rfl rfl (W.q4 (.bool true) rfl rfl (.nil ?_))))
   obtain rfl := zAa db
   exact ⟨true, _, rfl, B, (zAf _), rfl⟩
  have bA := z11 aT bz
  refine W.pure (v := (padd (.pointer (some ⟨C, 0, none⟩)) 4)) (gl rfl l) rfl (z0a zb3 ov (B.atVar (j := 0) rfl)) ?_
  obtain ⟨dc, dd, de⟩ := At.sl (At.proj (B.atVar (j := 0) rfl) z35)
  refine W.load1 (v := dc) (r := []) (gl rfl l) rfl ag26 (z0f rfl dd) (W.pure (v := (.int .i64 (d.Loads.length : Int))) (gl rfl l) rfl (z1j ov (z17 de) (z02 el26)) (W.q3 (hg := gk rfl rfl l rfl) (.bool (decide ((d.Loads.length : Int) > 12))) rfl rfl (W.q5 (.bool (decide ((d.Loads.length : Int) > 12))) l rfl (W.p2 (.bool (decide ((d.Loads.length : Int) > 12))) (W.splitAt (t := 41) (b := decide ((d.Loads.length : Int) > 12)) rfl (fun aU m => ?_) (fun aU m => ?_))))))
  .have df := z01 aU bA
   refine W.q6 rfl m (W.q6 rfl m (W.q6 rfl m (W.q6 rfl m (W.q4 (.bool true) m rfl (.nil ?_)))))
   obtain rfl := zAa df
   exact ⟨true, _, rfl, B, (zAf _), rfl⟩
  have dg := z11 aU bA
  refine W.pure (v := (padd (.pointer (some ⟨C, 0, none⟩)) 5)) (gl rfl m) rfl (z0a zb4 ov (B.atVar (j := 0) rfl)) ?_
  obtain ⟨dh, di, dj⟩ := At.sl (At.proj (B.atVar (j := 0) rfl) z2q)
  refine W.load1 (v := dh) (r := []) (gl rfl m) rfl ag27 (z0f rfl di) (W.pure (v := (.int .i64 (d.Stores.length : Int))) (gl rfl m) rfl (z1j ov (z17 dj) (z02 el27)) (W.q3 (hg := gk rfl rfl m rfl) (.bool (decide ((d.Stores.length : Int) > 4))) rfl rfl (W.q5 (.bool (decide ((d.Stores.length : Int) > 4))) m rfl (.nil ?_))))
  obtain rfl := zAa dg
  exact ⟨decide ((d.Stores.length : Int) > 4), _, rfl, B, (zAf _), rfl⟩
 rintro dO em ap ⟨dk, bB, rfl, bC, aa, dl⟩
 have bD := z0k dM
 refine .cond (b := dk) rfl dl (fun aV => ?_) (fun aV => ?_)
 .have dm := z01 aV bD
  refine .seq (.region (W.p1 (.int .i64 2) (.nil (.ret ?_))))
  have dn := bC.drop 0
  obtain rfl := zAa dm
  exact z41 kr (v1 := (.int .i64 2)) (by rfl) rt dn aa rfl
 have dp := z11 aV bD
 refine .skip (.seq (.region ?_))
 have dq := bC.nilSl 9 rS
 refine W.ln (Lo.alloc (r := rV) (x0 := (.slice none 0 0)) ze22 (by kernel_rfl) zV dq) ?_
 rintro en eo ⟨x, rfl, aW, dP⟩
 refine .nil (.seq (.region (W.pv (.func (.func 45) #[] #[(.pointer (some ⟨x, 0, none⟩))]) (z5x (z3l rfl mn) (z3l rfl (mc rfl mn))) (W.p1 (.func (.func 45) #[] #[(.pointer (some ⟨x, 0, none⟩))]) (.nil (.seq ?_))))))
 refine .seq (.region (W.pv (padd (.pointer (some ⟨C, 0, none⟩)) 0) (z0a zaj (ou (ft (ap 1 rfl) rfl)) (aW.atVar (j := 2) rfl)) ?_))
 obtain ⟨bE, dr, aX⟩ := At.sl (At.proj (aW.atVar (j := 2) rfl) z1y)
 refine W.l1 bE ag22 (z0f rfl dr) (W.pv (.int .i64 (d.Nodes.length : Int)) (z1j ov (z17 aX) (z02 el22)) (W.p2 (.int .i64 0) (.nil ?_)))
 obtain ⟨bF, ds, bG⟩ := z2f dp
 refine AW.midT (fun A E => ∃ (u : List zAd) (w_l3 : Value) (f : GM), (.inr u) = bF /\ Ow f E (eVar x 22 rV w_l3 :: eSl w_l3 9 rS u :: eVar C 29 z00 d :: L) /\ GM.le bB f) ?_ ?_
 .refine .block (AW.loop (α := Nat) (fun U A E => ∃ (u : List zAd) (aY : Int) (w_l3 : Value) (f : GM), z2c K d U u aY = some bF /\ Ow f E (eVar x 22 rV w_l3 :: eSl w_l3 9 rS u :: eVar C 29 z00 d :: L) /\ GM.le bB f /\ A 51 = .int .i64 aY) (fun U => U) K ⟨[], 0, (.slice none 0 0), _, ds, aW, (zAf _), rfl⟩ ?_)
  rintro aZ
  rintro dQ ep aq ⟨bH, ab, bI, eq, aN, a0, ac, a1⟩
  rcases aZ with _ | aZ
  .exact z0e aN
  rw [z2c] at aN
  refine .seq (.region (W.q3 (.bool (decide (ab < (d.Nodes.length : Int)))) a1 (ft (aq 50 rfl) rfl) (.nil (.seq (.cond (b := decide (ab < (d.Nodes.length : Int))) rfl rfl (fun a2 => ?_) (fun a2 => ?_))))))
  rotate_left
  .have bO := z11 a2 aN
   refine .exit ?_
   obtain rfl := zAa bO
   exact ⟨bH, bI, _, rfl, a0, ac⟩
  have dt := z01 a2 aN
  refine .skip (.seq (.block (.seq (.region ?_))))
  obtain ⟨aO, du, dv⟩ := z03 dt
  have a3 := z1v du
  refine W.pv (z5q bE (ab.toNat * 1)) (z6h el22 sz9 (ou (ft (aq 49 rfl) rfl)) (ou a1) (z17 (RT.mono _ ac aX)) a3.1 a3.2.1) (W.l1 (.string aO) ag9 (z0f rfl (At.str (At.le (At.le (z47 aX a3.2.2) ac ac) (zAf _) a0.fro))) (W.p1 (.string aO) (.nil (.seq (.region (W.q2 (.func (.func 45) #[] #[(.pointer (some ⟨x, 0, none⟩))]) (ft (aq 4 rfl) rfl) ?_))))))
  refine W.p2 (.string aO) ?_
  obtain ⟨S, dw, bJ⟩ := z03 dv
  refine W.ln (Lo.callvPF (ps := [_, _]) (pw := fun w => [_, _]) rfl rfl (fn := Tryd.f45) (by kernel_rfl) rfl (mc rfl mn) a0 (fun bP ar => z7g K aO x bI bH ar _ dw)) ?_
  rintro dR dS ⟨dx, er, bK, bL, dT, rfl⟩
  refine W.p1 (.int .i64 S.1) (.nil (.seq (.region (W.p2 (.int .i64 S.1) (W.p3 (.bool (S.1 != 0)) (.nil ?_))))))
  refine .cond (b := (S.1 != 0)) rfl rfl (fun au => ?_) (fun au => ?_)
  rotate_left
  .have bQ := z11 au bJ
   refine .skip (.region (W.r3 (.int .i64 (z0u .i64 (ab + 1))) a1 (W.p2 (.int .i64 (z0u .i64 (ab + 1))) (.nil ?_))))
   exact ⟨aZ, zAg _, ⟨S.2, z0u .i64 (ab + 1), dx, _, bQ, bK, (zAe ac bL), rfl⟩⟩
  have bR := z01 au bJ
  refine .seq (.region (W.p2 (.int .i64 S.1) (W.p1 (.int .i64 S.1) (.nil (.ret ?_)))))
  have bS := ((bK.drop 0).drop 0).drop 0
  obtain rfl := zAa bR
  have bT := z0k (z4x bG)
  obtain rfl := zAa bT
  exact z41 kr (v1 := (.int .i64 S.1)) (by rfl) rt bS (zAe aa (zAe ac bL)) rfl
 rintro dz dU ad ⟨bU, bV, dV, rfl, a4, ae⟩
 have bW := z0k (z67 bG)
 refine .seq (.seq (.region ?_))
 obtain ⟨a5, bX, a6⟩ := (a4.atVar (j := 2) rfl)
 refine W.loadA (cs := a5) rfl rfl ag29 sz29 (z0f (ft (ad 1 rfl) (ft (ap 1 rfl) rfl)) bX) (RT.len _ a6) ?_
 obtain ⟨y, bY, bZ⟩ := z03 bW
 refine W.ln (Lo.qF Tryd.f48 (ps := []) (pw := fun w => [_]) (mc rfl mn) a4 (fun bP ar => zaq K a5 d a6 ar _ bY)) ?_
 rintro dW dX ⟨J, a7, a8, af, dA, rfl⟩
 refine W.pv (.int .i64 (y.length : Int)) (z1j ov (a8.slLen (j := 0) rfl) (z02 el87)) (W.p2 (.int .i64 0) (.nil ?_))
 obtain ⟨a9, b0, V⟩ := z2f bZ
 refine AW.midT (fun A E => ∃ (u : List zAd) (w_l3 : Value) (f : GM), (.inr u) = a9 /\ Ow f E (eSl J 90 z2z y :: eVar x 22 rV w_l3 :: eSl w_l3 9 rS u :: eVar C 29 z00 d :: L) /\ GM.le a7 f) ?_ ?_
 rotate_left
 .rintro dB dY dC ⟨dZ, d0, d1, rfl, b1, b2⟩
  have b3 := z0k (z67 V)
  refine .seq (.region (W.p1 (.int .i64 0) (.nil (.ret ?_))))
  have b4 := (((b1.drop 0).drop 0).drop 0).drop 0
  obtain rfl := zAa b3
  exact z41 kr (v1 := (.int .i64 0)) (by rfl) rt b4 (zAe aa (zAe ae (zAe af b2))) rfl
 refine .block (AW.loop (α := Nat) (fun U A E => ∃ (u : List zAd) (aY : Int) (w_l3 : Value) (f : GM), z2d K y d U u aY = some a9 /\ Ow f E (eSl J 90 z2z y :: eVar x 22 rV w_l3 :: eSl w_l3 9 rS u :: eVar C 29 z00 d :: L) /\ GM.le a7 f /\ A 65 = .int .i64 aY) (fun U => U) K ⟨bU, 0, bV, _, b0, a8, (zAf _), rfl⟩ ?_)
 rintro av
 rintro dD d2 T ⟨ba, N, bb, d3, ag, ah, X, aw⟩
 rcases av with _ | av
 .exact z0e ag
 rw [z2d] at ag
 refine .seq (.region (W.q3 (.bool (decide (N < (y.length : Int)))) aw (ft (T 64 rfl) rfl) (.nil (.seq (.cond (b := decide (N < (y.length : Int))) rfl rfl (fun ax => ?_) (fun ax => ?_))))))
 rotate_left
 .have b5 := z11 ax ag
  refine .exit ?_
  obtain rfl := zAa b5
  exact ⟨ba, bb, _, rfl, ah, X⟩
 have b6 := z01 ax ag
 refine .skip (.seq (.block (.seq (.region ?_))))
 obtain ⟨e, b7, b8⟩ := z03 b6
 have ay := z1v b7
 refine W.pv (z5q J (N.toNat * 4)) (z6h el87 sz90 (ou (ft (T 63 rfl) rfl)) (ou aw) (ah.slLen (j := 0) rfl) ay.1 ay.2.1) ?_
 obtain ⟨bc, b9, bd⟩ := (ah.atSl (j := 0) rfl ay.2.2)
 refine W.loadA (cs := bc) rfl rfl ag90 sz90 (z0f rfl b9) (RT.len _ bd) (W.ln (Lo.alloc (r := z2z) (x0 := (Item.mk ByteArray.empty ([] : List zAd) false false)) ze90 (by kernel_rfl) zhs ah) ?_)
 rintro d4 d5 ⟨z, rfl, ca, dE⟩
 refine W.ln (Lo.storeVar (j := 0) (s := z2z) (y0 := e) (v := (.agg bc.toArray)) (o := 0) rfl ((Put.at (Put.self _) _ _)) rfl sz90 rfl (by omega) rfl bd ca) ?_
 rintro d6 d7 ⟨az, dF⟩
 refine .nil (.seq (.seq (.region (W.q2 (.func (.func 45) #[] #[(.pointer (some ⟨x, 0, none⟩))]) (ft (T 4 rfl) (ft (ad 4 rfl) rfl)) (W.pv (padd (.pointer (some ⟨z, 0, none⟩)) 0) (z0a zkr ov (az.atVar (j := 0) rfl)) (W.l1 (.string e.name) ag9 (z0f rfl (At.str (At.proj (az.atVar (j := 0) rfl) zbf))) ?_))))))
 have cb := ((((az.front (j := 4) rfl).front (j := 2) rfl).front (j := 2) rfl).front (j := 4) rfl).front (j := 4) rfl
 obtain ⟨p, cc, be⟩ := z03 b8
 refine W.ln (Lo.callvPF (ps := [_, _]) (pw := fun w => [_, _]) rfl rfl (fn := Tryd.f45) (by kernel_rfl) rfl (mc rfl mn) cb (fun bP ar => z7g K e.name x bb ba ar _ cc)) ?_
 rintro d8 d9 ⟨F, bf, ai, aj, dG, rfl⟩
 refine W.p1 (.int .i64 p.1) (.nil (.seq (.region (W.p2 (.int .i64 p.1) (W.p3 (.bool (p.1 != 0)) (.nil ?_))))))
 refine .cond (b := (p.1 != 0)) rfl rfl (fun aA => ?_) (fun aA => ?_)
 .have cd := z01 aA be
  refine .seq (.region (W.p2 (.int .i64 p.1) (W.p1 (.int .i64 p.1) (.nil (.ret ?_)))))
  have ce := ((((ai.drop 0).drop 0).drop 0).drop 0).drop 0
  obtain rfl := zAa cd
  have cf := z0k (z4x V)
  obtain rfl := zAa cf
  exact z41 kr (v1 := (.int .i64 p.1)) (by rfl) rt ce (zAe aa (zAe ae (zAe af (zAe X aj)))) rfl
 have cg := z11 aA be
 refine .skip (.seq (.seq (.region (W.pv (padd (.pointer (some ⟨z, 0, none⟩)) 1) (z0a zjf ov (ai.atVar (j := 2) rfl)) ?_))))
 obtain ⟨bg, ch, aB⟩ := At.sl (At.proj (ai.atVar (j := 2) rfl) z8u)
 refine W.l1 bg ag22 (z0f rfl ch) (W.pv (.int .i64 (e.nodes.length : Int)) (z1j ov (z17 aB) (z02 el22)) (W.p2 (.int .i64 0) (.nil ?_)))
 obtain ⟨bh, ci, bi⟩ := z2f cg
 refine AW.midT (fun A E => ∃  (f : GM), (.inr ()) = bh /\ Ow f E (eVar x 22 rV F :: eSl F 9 rS p.2 :: eVar z 90 z2z e :: eSl J 90 z2z y :: eVar C 29 z00 d :: L) /\ GM.le bf f) ?_ ?_
 .refine .block (AW.loop (α := Nat) (fun U A E => ∃ (u : Int) (f : GM), z20 K d e U u = some bh /\ Ow f E (eVar x 22 rV F :: eSl F 9 rS p.2 :: eVar z 90 z2z e :: eSl J 90 z2z y :: eVar C 29 z00 d :: L) /\ GM.le bf f /\ A 79 = .int .i64 u) (fun U => U) K ⟨0, _, ci, ai, (zAf _), rfl⟩ ?_)
  rintro aC
  rintro dH ea ak ⟨P, eb, al, Y, Q, aD⟩
  rcases aC with _ | aC
  .exact z0e al
  rw [z20] at al
  refine .seq (.region (W.q3 (.bool (decide (P < (e.nodes.length : Int)))) aD (ft (ak 78 rfl) rfl) (.nil (.seq (.cond (b := decide (P < (e.nodes.length : Int))) rfl rfl (fun aE => ?_) (fun aE => ?_))))))
  rotate_left
  .have cj := z11 aE al
   refine .exit ?_
   obtain rfl := zAa cj
   exact ⟨_, rfl, Y, Q⟩
  have ck := z01 aE al
  refine .skip (.seq (.block (.seq (.region ?_))))
  obtain ⟨am, cl, cm⟩ := z03 ck
  have aF := z1v cl
  refine W.pv (z5q bg (P.toNat * 1)) (z6h el22 sz9 (ou (ft (ak 77 rfl) rfl)) (ou aD) (z17 (RT.mono _ Q aB)) aF.1 aF.2.1) (W.l1 (.string am) ag9 (z0f rfl (At.str (At.le (At.le (z47 aB aF.2.2) Q Q) (zAf _) Y.fro))) (W.p1 (.string am) (.nil (.seq (.region (W.pv (padd (.pointer (some ⟨C, 0, none⟩)) 0) (z0a zaj (ou (ft (ak 1 rfl) (ft (T 1 rfl) (ft (ad 1 rfl) (ft (ap 1 rfl) rfl))))) (Y.atVar (j := 4) rfl)) ?_))))))
  obtain ⟨bj, cn, co⟩ := At.sl (At.proj (Y.atVar (j := 4) rfl) z1y)
  refine W.l1 bj ag22 (z0f rfl cn) (W.p2 (.string am) ?_)
  obtain ⟨aG, cp, bk⟩ := z03 cm
  refine W.ln (Lo.cQ Tryd.f47 (mc rfl (mc rfl mn)) Y (fun bP ar => zci K bj d.Nodes co am ar _ cp)) ?_
  rintro ec ed ⟨ee, bl, bm, dI, rfl⟩
  have dy := zAe aa (zAe ae (zAe af (zAe X (zAe aj (zAe Q bm)))))
  refine W.pv (.bool (!aG)) (z26 (a := aG) ov) (.nil (.cond (b := (!aG)) rfl rfl (fun aH => ?_) (fun aH => ?_)))
  rotate_left
  .have cq := z11 aH bk
   refine .skip (.region (W.r3 (.int .i64 (z0u .i64 (P + 1))) aD (W.p2 (.int .i64 (z0u .i64 (P + 1))) (.nil ?_))))
   exact ⟨aC, zAg _, ⟨z0u .i64 (P + 1), _, cq, bl, (zAe Q bm), rfl⟩⟩
  have cr := z01 aH bk
  refine .seq (.region (W.p1 (.int .i64 6) (.nil (.ret ?_))))
  have ct := ((((bl.drop 0).drop 0).drop 0).drop 0).drop 0
  obtain rfl := zAa cr
  have cu := z0k (z4x bi)
  obtain rfl := zAa cu
  have cv := z0k (z4x V)
  obtain rfl := zAa cv
  exact z41 kr (v1 := (.int .i64 6)) (by rfl) rt ct dy rfl
 rintro dJ ef I ⟨cw, rfl, cx, bn⟩
 have cy := z6j (z67 bi)
 refine .seq (.seq ?_)
 obtain ⟨cz, bo, cA⟩ := z03 cy
 refine AW.midT (fun A E => ∃ (u : Bool) (f : GM), u = cz /\ Ow f E (eVar x 22 rV F :: eSl F 9 rS p.2 :: eVar z 90 z2z e :: eSl J 90 z2z y :: eVar C 29 z00 d :: L) /\ GM.le cw f /\ A 101 = .bool u) ?_ ?_
 rotate_left
 .rintro dK eg aP ⟨cB, eh, rfl, Z, bp, cC⟩
  have bM := zAe aa (zAe ae (zAe af (zAe X (zAe aj (zAe bn bp)))))
  have bq := z0k cA
  refine .cond (b := cB) rfl cC (fun aI => ?_) (fun aI => ?_)
  .have cD := z01 aI bq
   refine .seq (.region (W.p1 (.int .i64 3) (.nil (.ret ?_))))
   have cE := ((((Z.drop 0).drop 0).drop 0).drop 0).drop 0
   obtain rfl := zAa cD
   have cF := z0k (z4x V)
   obtain rfl := zAa cF
   exact z41 kr (v1 := (.int .i64 3)) (by rfl) rt cE bM rfl
  have br := z11 aI bq
  refine .skip (.seq (.region (W.pv (padd (.pointer (some ⟨z, 0, none⟩)) 3) (z0a zlm (ou (ft (aP 9 rfl) (ft (I 9 rfl) rfl))) (Z.atVar (j := 2) rfl)) (W.l1 (.bool e.bad) ag4 (z0f rfl (At.bool (At.proj (Z.atVar (j := 2) rfl) zgg))) (.nil (.cond (b := e.bad) rfl rfl (fun aJ => ?_) (fun aJ => ?_)))))))
  .have cG := z01 aJ br
   refine .seq (.region (W.p1 (.int .i64 4) (.nil (.ret ?_))))
   have cH := ((((Z.drop 0).drop 0).drop 0).drop 0).drop 0
   obtain rfl := zAa cG
   have cI := z0k (z4x V)
   obtain rfl := zAa cI
   exact z41 kr (v1 := (.int .i64 4)) (by rfl) rt cH bM rfl
  have cJ := z11 aJ br
  refine .skip (.region (W.q3 (.int .i64 (z0u .i64 (N + 1))) (ft (aP 65 rfl) (ft (I 65 rfl) aw)) rfl (W.p2 (.int .i64 (z0u .i64 (N + 1))) (.nil ?_))))
  have cK := ((((Z.drop 2).front (j := 3) rfl).front (j := 2) rfl).front (j := 2) rfl).front (j := 3) rfl
  exact ⟨av, zAg _, ⟨p.2, z0u .i64 (N + 1), F, _, cJ, cK, (zAe X (zAe aj (zAe bn bp))), rfl⟩⟩
 refine .draw2 (M := [0, 1, 3, 7, 15, 31, 63, 7, 135, 391, 903, 2047, 4095]) mixed (by kernel_rfl) (by kernel_rfl) fun ei ej cL ek => ?_
 have q := cx.ext cL
 refine D2.pv (padd (.pointer (some ⟨z, 0, none⟩)) 2) (z0a zll (ou (ft (I 9 rfl) rfl)) (q.atVar (j := 2) rfl)) (D2.l1 (.bool e.apart) ag4 (z0f rfl (At.bool (At.proj (q.atVar (j := 2) rfl) zd8))) z0d (D2.p2 (.bool e.apart) (D2.splitAt (t := 91) (b := e.apart) rfl (fun aK c => ?_) (fun aK c => ?_))))
 rotate_left
 .have cM := z11 aK bo
  refine D2.skip (gl rfl c) rfl (D2.skip (gl rfl c) rfl (D2.skip (gl rfl c) rfl (D2.skip (gl rfl c) rfl (D2.skip (gl rfl c) rfl (D2.skip (gl rfl c) rfl (D2.skip (gl rfl c) rfl ?_))))))
  refine D2.skip (gl rfl c) rfl (D2.skip (gl rfl c) rfl (D2.pv (.bool false) (z95 (ou c) ov) (.nil ?_)))
  obtain rfl := zAa cM
  exact ⟨false, _, rfl, q, (zAf _), rfl⟩
 have cN := z01 aK bo
 refine D2.pure (v := (padd (.pointer (some ⟨z, 0, none⟩)) 1)) (gl rfl c) rfl (z0a zjf (ou (ft (I 9 rfl) rfl)) (q.atVar (j := 2) rfl)) ?_
 obtain ⟨bs, cO, bt⟩ := At.sl (At.proj (q.atVar (j := 2) rfl) z8u)
 refine D2.load1' (v := bs) (r := []) (gl rfl c) rfl ag22 (z0f rfl cO) z0d ?_
 obtain ⟨an, cP, cR⟩ := z03 cN
 have aL := z1v cP
 refine D2.pure (v := (z5q bs (Int.toNat 0 * 1))) (gl rfl c) rfl (z6h el22 sz9 ov ov (z17 bt) aL.1 aL.2.1) (D2.load1' (v := (.string an)) (r := []) (gl rfl c) rfl ag9 (z0f rfl (At.str (At.le (z47 bt aL.2.2) (zAf _) q.fro))) z0d (D2.pure (v := (padd (.pointer (some ⟨z, 0, none⟩)) 1)) (gl rfl c) rfl (z0a zjf (ou (ft (I 9 rfl) rfl)) (q.atVar (j := 2) rfl)) ?_))
 obtain ⟨bu, cS, bv⟩ := At.sl (At.proj (q.atVar (j := 2) rfl) z8u)
 refine D2.load1' (v := bu) (r := []) (gl rfl c) rfl ag22 (z0f rfl cS) z0d ?_
 obtain ⟨ao, cT, cU⟩ := z03 cR
 have aM := z1v cT
 refine D2.pure (v := (z5q bu (Int.toNat 1 * 1))) (gl rfl c) rfl (z6h el22 sz9 ov ov (z17 bv) aM.1 aM.2.1) (D2.load1' (v := (.string ao)) (r := []) (gl rfl c) rfl ag9 (z0f rfl (At.str (At.le (z47 bv aM.2.2) (zAf _) q.fro))) z0d (D2.pure (v := (.bool (sEq an ao))) (gl rfl c) rfl (z69 ov ov) (D2.pv (.bool (sEq an ao)) (z8e (ou c) ov) (.nil ?_))))
 obtain rfl := zAa cU
 exact ⟨sEq an ao, _, rfl, q, (zAf _), rfl⟩
end Go.Am.Tryd
